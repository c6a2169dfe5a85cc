/- A part of the proof of AgeKeeps: F16j, VLe, ClPeers, F11a, F11b, F11c, P11, F11d, SamePeers, SameItems, SameTolds, G16a, G11a, P11b, G11d. -/
import Derived.Test.YtaapoiikbolgnaaMLAgeKeeps3
import Derived.Shelf.RegionOpenPlain
import Derived.Lib.Walk
import Derived.Lib.SliceRun
import Derived.Laws.AppendOwn
import Derived.Conc.AppendEvents2
import Derived.Lib.AppendZeros
/- Contracts: a new node: the document's; comparisons. -/
namespace Go.Proofs.Ytaapoiikbolgnaa
open Go.RowKit

set_option maxHeartbeats 2000000 in
theorem k_refNew : Known Try.prog tau 14 (S2 dInt dInts fun id ids => .ok (.tup [.agg (nNew (newN id ids).1), .int .i64 (newN id ids).2]) [.ints (newN id ids).1.view.passive]) := by
  refine known2 hmix tau_ok (ctx_cons k_refPlace (ctx_cons k_refWith ctx_nil)) (fn := Try.f14) (by kernel_rfl) [] (by kernel_rfl) _ _ _ fun id xs hfit => ⟨rfl,
    [(5, invX (Nat × Bool × List Int) (5 :: 6 :: 7 :: 8 :: 9 :: 14 :: 15 :: 16 :: 17 :: 18 :: 19 :: 20 :: 21 :: 22 :: 23 :: 24 :: 25 :: 26 :: 27 :: 28 :: 29 :: 30 :: 31 :: 32 :: 33 :: 34 :: 35 :: 36 :: 37 :: 38 :: []) [32, 50032] (fun g => g.1 ≤ xs.length ∧ newP id [] xs = newP id g.2.2 (xs.drop g.1)) (fun g st => match g.2.2, g.2.1 with
      | [], _ => withS [(7, .int .i64 g.1), (6, .nilS (.ints []))] st
      | y :: ys, false => withS [(7, .int .i64 g.1), (6, .own 32)] (withR [(32, .own (.ints (y :: ys)))] st)
      | y :: ys, true => withS [(7, .int .i64 g.1), (6, .own 50032)] (withR [(50032, .own (.ints (y :: ys)))] st)) (fun g => xs.length - g.1))], ?_⟩
  have hlen : xs.length * 8 ≤ 140737488355328 := hfit.2.1
  clear hfit
  (repeat' (first | ((with_reducible refine body_intro ?_); (first | ((with_reducible refine seq_intro ?_ (fun Kv hN hX hR => ?_)); (next => exact rfl)) | ((with_reducible refine join_intro ?_ ?_); (next => exact rfl)) | (conv => whnf))) | with_reducible refine body_stop (fun Kv hN hX hR => ?_) | with_reducible refine Stop.mk ?_ | with_reducible refine Join.mk ⟨fun Kv hN hX hR => ?_, ?_⟩ | with_reducible refine DrawJ.each ?_ | with_reducible exact SubJ.self _ | with_reducible refine SubJ.of ?_ | with_reducible refine fill2_step (fun Kf hF => ?_) | with_reducible refine fill2_nil ?_ | with_reducible refine node2_step (fun Kg hG => ?_) | (with_reducible refine hF _ _ ?_; clear hF; clear Kf) | (with_reducible refine hG _ _ _ _ ?_; clear hG; clear Kg) | ((with_reducible refine seq_intro ?_ (fun Kv hN hX hR => ?_)); (next => exact rfl)) | ((with_reducible refine join_intro ?_ ?_); (next => exact rfl)) | (with_reducible refine hN _ ?_; (try (clear hG; clear Kg)); clear hN hX hR; clear Kv) | (with_reducible refine hX _ _ ?_; (try (clear hG; clear Kg)); clear hN hX hR; clear Kv) | (with_reducible refine hR _ ?_; (try (clear hG; clear Kg)); clear hN hX hR; clear Kv) | ((conv => whnf); first | with_reducible rfl | with_reducible exact True.intro | with_reducible refine (fun (_ : (_ : Prop)) => ?_) | with_reducible refine And.intro ?_ ?_ | (with_reducible refine hN _ ?_; (try (clear hG; clear Kg)); clear hN hX hR; clear Kv) | (with_reducible refine hX _ _ ?_; (try (clear hG; clear Kg)); clear hN hX hR; clear Kv) | (with_reducible refine hR _ ?_; (try (clear hG; clear Kg)); clear hN hX hR; clear Kv) | with_reducible refine body_stop (fun Kv hN hX hR => ?_) | with_reducible refine Stop.mk ?_ | with_reducible refine Join.mk ⟨fun Kv hN hX hR => ?_, ?_⟩ | with_reducible refine DrawJ.each ?_ | with_reducible exact SubJ.self _ | with_reducible refine SubJ.of ?_ | with_reducible refine fill2_step (fun Kf hF => ?_) | with_reducible refine fill2_nil ?_ | with_reducible refine node2_step (fun Kg hG => ?_) | (with_reducible refine hF _ _ ?_; clear hF; clear Kf) | (with_reducible refine hG _ _ _ _ ?_; clear hG; clear Kg)))); all_goals (conv => whnf); all_goals (repeat ((try (clear hG; clear Kg)); clear hN hX hR; clear Kv))
  all_goals first
    | (rw [newN_no (.inl (nf (show (!placeB id) = true by with_reducible assumption)))] <;> rfl)
    | (refine ⟨(0, false, []), ⟨Nat.zero_le _, rfl⟩, ?_⟩
       (repeat' (first | ((with_reducible refine body_intro ?_); (first | ((with_reducible refine seq_intro ?_ (fun Kv hN hX hR => ?_)); (next => exact rfl)) | ((with_reducible refine join_intro ?_ ?_); (next => exact rfl)) | (conv => whnf))) | with_reducible refine body_stop (fun Kv hN hX hR => ?_) | with_reducible refine Stop.mk ?_ | with_reducible refine Join.mk ⟨fun Kv hN hX hR => ?_, ?_⟩ | with_reducible refine DrawJ.each ?_ | with_reducible exact SubJ.self _ | with_reducible refine SubJ.of ?_ | with_reducible refine fill2_step (fun Kf hF => ?_) | with_reducible refine fill2_nil ?_ | with_reducible refine node2_step (fun Kg hG => ?_) | (with_reducible refine hF _ _ ?_; clear hF; clear Kf) | (with_reducible refine hG _ _ _ _ ?_; clear hG; clear Kg) | ((with_reducible refine seq_intro ?_ (fun Kv hN hX hR => ?_)); (next => exact rfl)) | ((with_reducible refine join_intro ?_ ?_); (next => exact rfl)) | (with_reducible refine hN _ ?_; (try (clear hG; clear Kg)); clear hN hX hR; clear Kv) | (with_reducible refine hX _ _ ?_; (try (clear hG; clear Kg)); clear hN hX hR; clear Kv) | (with_reducible refine hR _ ?_; (try (clear hG; clear Kg)); clear hN hX hR; clear Kv) | ((conv => whnf); first | with_reducible rfl | with_reducible exact True.intro | with_reducible intro _ | with_reducible refine And.intro ?_ ?_ | (with_reducible refine hN _ ?_; (try (clear hG; clear Kg)); clear hN hX hR; clear Kv) | (with_reducible refine hX _ _ ?_; (try (clear hG; clear Kg)); clear hN hX hR; clear Kv) | (with_reducible refine hR _ ?_; (try (clear hG; clear Kg)); clear hN hX hR; clear Kv) | with_reducible refine body_stop (fun Kv hN hX hR => ?_) | with_reducible refine Stop.mk ?_ | with_reducible refine Join.mk ⟨fun Kv hN hX hR => ?_, ?_⟩ | with_reducible refine DrawJ.each ?_ | with_reducible exact SubJ.self _ | with_reducible refine SubJ.of ?_ | with_reducible refine fill2_step (fun Kf hF => ?_) | with_reducible refine fill2_nil ?_ | with_reducible refine node2_step (fun Kg hG => ?_) | (with_reducible refine hF _ _ ?_; clear hF; clear Kf) | (with_reducible refine hG _ _ _ _ ?_; clear hG; clear Kg)))); all_goals (conv => whnf); all_goals (repeat ((try (clear hG; clear Kg)); clear hN hX hR; clear Kv))
       all_goals rfl)
    | (rintro ⟨i, kb, l⟩ ⟨hi, hl⟩
       dsimp only at hi hl
       have hid := nt (show (!placeB id) = false by with_reducible assumption)
       rcases l with _ | ⟨y, l⟩
       rotate_left
       rcases kb with _ | _
       all_goals
         (repeat' (first | ((with_reducible refine body_intro ?_); (first | ((with_reducible refine seq_intro ?_ (fun Kv hN hX hR => ?_)); (next => exact rfl)) | ((with_reducible refine join_intro ?_ ?_); (next => exact rfl)) | (conv => whnf))) | with_reducible refine body_stop (fun Kv hN hX hR => ?_) | with_reducible refine Stop.mk ?_ | with_reducible refine Join.mk ⟨fun Kv hN hX hR => ?_, ?_⟩ | with_reducible refine DrawJ.each ?_ | with_reducible exact SubJ.self _ | with_reducible refine SubJ.of ?_ | with_reducible refine fill2_step (fun Kf hF => ?_) | with_reducible refine fill2_nil ?_ | with_reducible refine node2_step (fun Kg hG => ?_) | (with_reducible refine hF _ _ ?_; clear hF; clear Kf) | (with_reducible refine hG _ _ _ _ ?_; clear hG; clear Kg) | ((with_reducible refine seq_intro ?_ (fun Kv hN hX hR => ?_)); (next => exact rfl)) | ((with_reducible refine join_intro ?_ ?_); (next => exact rfl)) | (with_reducible refine hN _ ?_; (try (clear hG; clear Kg)); clear hN hX hR; clear Kv) | (with_reducible refine hX _ _ ?_; (try (clear hG; clear Kg)); clear hN hX hR; clear Kv) | (with_reducible refine hR _ ?_; (try (clear hG; clear Kg)); clear hN hX hR; clear Kv) | ((conv => whnf); first | with_reducible rfl | with_reducible exact True.intro | with_reducible intro _ | with_reducible refine And.intro ?_ ?_ | (with_reducible refine hN _ ?_; (try (clear hG; clear Kg)); clear hN hX hR; clear Kv) | (with_reducible refine hX _ _ ?_; (try (clear hG; clear Kg)); clear hN hX hR; clear Kv) | (with_reducible refine hR _ ?_; (try (clear hG; clear Kg)); clear hN hX hR; clear Kv) | with_reducible refine body_stop (fun Kv hN hX hR => ?_) | with_reducible refine Stop.mk ?_ | with_reducible refine Join.mk ⟨fun Kv hN hX hR => ?_, ?_⟩ | with_reducible refine DrawJ.each ?_ | with_reducible exact SubJ.self _ | with_reducible refine SubJ.of ?_ | with_reducible refine fill2_step (fun Kf hF => ?_) | with_reducible refine fill2_nil ?_ | with_reducible refine node2_step (fun Kg hG => ?_) | (with_reducible refine hF _ _ ?_; clear hF; clear Kf) | (with_reducible refine hG _ _ _ _ ?_; clear hG; clear Kg)))); all_goals (conv => whnf); all_goals (repeat ((try (clear hG; clear Kg)); clear hN hX hR; clear Kv))
       all_goals (try dsimp only at *)
       all_goals (try simp only [Int.toNat_natCast] at *)
       all_goals first
         | (have h := of_decide_eq_true (show decide ((i : Int) < (xs.length : Nat)) = true by with_reducible assumption)
            first
              | exact Ob.mk ⟨by omega, h⟩
              | (have h2 := of_decide_eq_true (show decide (xs.getD i 0 = id) = true by with_reducible assumption)
                 refine ⟨(i + 1, false, _), ⟨by show i + 1 ≤ xs.length; omega, hl.trans (newP_same (by omega) h2)⟩, by show xs.length - (i + 1) < xs.length - i; omega, ?_⟩
                 (repeat' (first | ((with_reducible refine body_intro ?_); (first | ((with_reducible refine seq_intro ?_ (fun Kv hN hX hR => ?_)); (next => exact rfl)) | ((with_reducible refine join_intro ?_ ?_); (next => exact rfl)) | (conv => whnf))) | with_reducible refine body_stop (fun Kv hN hX hR => ?_) | with_reducible refine Stop.mk ?_ | with_reducible refine Join.mk ⟨fun Kv hN hX hR => ?_, ?_⟩ | with_reducible refine DrawJ.each ?_ | with_reducible exact SubJ.self _ | with_reducible refine SubJ.of ?_ | with_reducible refine fill2_step (fun Kf hF => ?_) | with_reducible refine fill2_nil ?_ | with_reducible refine node2_step (fun Kg hG => ?_) | (with_reducible refine hF _ _ ?_; clear hF; clear Kf) | (with_reducible refine hG _ _ _ _ ?_; clear hG; clear Kg) | ((with_reducible refine seq_intro ?_ (fun Kv hN hX hR => ?_)); (next => exact rfl)) | ((with_reducible refine join_intro ?_ ?_); (next => exact rfl)) | (with_reducible refine hN _ ?_; (try (clear hG; clear Kg)); clear hN hX hR; clear Kv) | (with_reducible refine hX _ _ ?_; (try (clear hG; clear Kg)); clear hN hX hR; clear Kv) | (with_reducible refine hR _ ?_; (try (clear hG; clear Kg)); clear hN hX hR; clear Kv) | ((conv => whnf); first | with_reducible rfl | with_reducible exact True.intro | with_reducible intro _ | with_reducible refine And.intro ?_ ?_ | (with_reducible refine hN _ ?_; (try (clear hG; clear Kg)); clear hN hX hR; clear Kv) | (with_reducible refine hX _ _ ?_; (try (clear hG; clear Kg)); clear hN hX hR; clear Kv) | (with_reducible refine hR _ ?_; (try (clear hG; clear Kg)); clear hN hX hR; clear Kv) | with_reducible refine body_stop (fun Kv hN hX hR => ?_) | with_reducible refine Stop.mk ?_ | with_reducible refine Join.mk ⟨fun Kv hN hX hR => ?_, ?_⟩ | with_reducible refine DrawJ.each ?_ | with_reducible exact SubJ.self _ | with_reducible refine SubJ.of ?_ | with_reducible refine fill2_step (fun Kf hF => ?_) | with_reducible refine fill2_nil ?_ | with_reducible refine node2_step (fun Kg hG => ?_) | (with_reducible refine hF _ _ ?_; clear hF; clear Kf) | (with_reducible refine hG _ _ _ _ ?_; clear hG; clear Kg)))); all_goals (conv => whnf); all_goals (repeat ((try (clear hG; clear Kg)); clear hN hX hR; clear Kv))
                 all_goals first
                   | exact wrapI (by omega) (by omega)
                   | rfl)
              | (have h2 := of_decide_eq_true (show decide (xs.getD i 0 = id) = true by with_reducible assumption)
                 refine ⟨(i + 1, true, _), ⟨by show i + 1 ≤ xs.length; omega, hl.trans (newP_same (by omega) h2)⟩, by show xs.length - (i + 1) < xs.length - i; omega, ?_⟩
                 (repeat' (first | ((with_reducible refine body_intro ?_); (first | ((with_reducible refine seq_intro ?_ (fun Kv hN hX hR => ?_)); (next => exact rfl)) | ((with_reducible refine join_intro ?_ ?_); (next => exact rfl)) | (conv => whnf))) | with_reducible refine body_stop (fun Kv hN hX hR => ?_) | with_reducible refine Stop.mk ?_ | with_reducible refine Join.mk ⟨fun Kv hN hX hR => ?_, ?_⟩ | with_reducible refine DrawJ.each ?_ | with_reducible exact SubJ.self _ | with_reducible refine SubJ.of ?_ | with_reducible refine fill2_step (fun Kf hF => ?_) | with_reducible refine fill2_nil ?_ | with_reducible refine node2_step (fun Kg hG => ?_) | (with_reducible refine hF _ _ ?_; clear hF; clear Kf) | (with_reducible refine hG _ _ _ _ ?_; clear hG; clear Kg) | ((with_reducible refine seq_intro ?_ (fun Kv hN hX hR => ?_)); (next => exact rfl)) | ((with_reducible refine join_intro ?_ ?_); (next => exact rfl)) | (with_reducible refine hN _ ?_; (try (clear hG; clear Kg)); clear hN hX hR; clear Kv) | (with_reducible refine hX _ _ ?_; (try (clear hG; clear Kg)); clear hN hX hR; clear Kv) | (with_reducible refine hR _ ?_; (try (clear hG; clear Kg)); clear hN hX hR; clear Kv) | ((conv => whnf); first | with_reducible rfl | with_reducible exact True.intro | with_reducible intro _ | with_reducible refine And.intro ?_ ?_ | (with_reducible refine hN _ ?_; (try (clear hG; clear Kg)); clear hN hX hR; clear Kv) | (with_reducible refine hX _ _ ?_; (try (clear hG; clear Kg)); clear hN hX hR; clear Kv) | (with_reducible refine hR _ ?_; (try (clear hG; clear Kg)); clear hN hX hR; clear Kv) | with_reducible refine body_stop (fun Kv hN hX hR => ?_) | with_reducible refine Stop.mk ?_ | with_reducible refine Join.mk ⟨fun Kv hN hX hR => ?_, ?_⟩ | with_reducible refine DrawJ.each ?_ | with_reducible exact SubJ.self _ | with_reducible refine SubJ.of ?_ | with_reducible refine fill2_step (fun Kf hF => ?_) | with_reducible refine fill2_nil ?_ | with_reducible refine node2_step (fun Kg hG => ?_) | (with_reducible refine hF _ _ ?_; clear hF; clear Kf) | (with_reducible refine hG _ _ _ _ ?_; clear hG; clear Kg)))); all_goals (conv => whnf); all_goals (repeat ((try (clear hG; clear Kg)); clear hN hX hR; clear Kv))
                 all_goals first
                   | exact wrapI (by omega) (by omega)
                   | rfl)
              | (have h2 := of_decide_eq_false (show decide (xs.getD i 0 = id) = false by with_reducible assumption)
                 have h3 := of_decide_eq_false (nf (b := decide ((withP _ (xs.getD i 0)).2 = 0)) (by with_reducible assumption))
                 rw [newN_no (.inr (hl.trans (newP_bad2 (by omega) h2 h3)))] <;> rfl)
              | (have h2 := of_decide_eq_false (show decide (xs.getD i 0 = id) = false by with_reducible assumption)
                 have h3 := of_decide_eq_true (nt (b := decide ((withP _ (xs.getD i 0)).2 = 0)) (by with_reducible assumption))
                 obtain ⟨y', W, hW, h4⟩ := newP_go (by omega) h2 h3 hl
                 refine ⟨(i + 1, false, y' :: W), ⟨by show i + 1 ≤ xs.length; omega, h4⟩, by show xs.length - (i + 1) < xs.length - i; omega, ?_⟩
                 · (try dsimp only)
                   (repeat' (first | ((with_reducible refine body_intro ?_); (first | ((with_reducible refine seq_intro ?_ (fun Kv hN hX hR => ?_)); (next => exact rfl)) | ((with_reducible refine join_intro ?_ ?_); (next => exact rfl)) | (conv => whnf))) | with_reducible refine body_stop (fun Kv hN hX hR => ?_) | with_reducible refine Stop.mk ?_ | with_reducible refine Join.mk ⟨fun Kv hN hX hR => ?_, ?_⟩ | with_reducible refine DrawJ.each ?_ | with_reducible exact SubJ.self _ | with_reducible refine SubJ.of ?_ | with_reducible refine fill2_step (fun Kf hF => ?_) | with_reducible refine fill2_nil ?_ | with_reducible refine node2_step (fun Kg hG => ?_) | (with_reducible refine hF _ _ ?_; clear hF; clear Kf) | (with_reducible refine hG _ _ _ _ ?_; clear hG; clear Kg) | ((with_reducible refine seq_intro ?_ (fun Kv hN hX hR => ?_)); (next => exact rfl)) | ((with_reducible refine join_intro ?_ ?_); (next => exact rfl)) | (with_reducible refine hN _ ?_; (try (clear hG; clear Kg)); clear hN hX hR; clear Kv) | (with_reducible refine hX _ _ ?_; (try (clear hG; clear Kg)); clear hN hX hR; clear Kv) | (with_reducible refine hR _ ?_; (try (clear hG; clear Kg)); clear hN hX hR; clear Kv) | ((conv => whnf); first | with_reducible rfl | with_reducible exact True.intro | with_reducible intro _ | with_reducible refine And.intro ?_ ?_ | (with_reducible refine hN _ ?_; (try (clear hG; clear Kg)); clear hN hX hR; clear Kv) | (with_reducible refine hX _ _ ?_; (try (clear hG; clear Kg)); clear hN hX hR; clear Kv) | (with_reducible refine hR _ ?_; (try (clear hG; clear Kg)); clear hN hX hR; clear Kv) | with_reducible refine body_stop (fun Kv hN hX hR => ?_) | with_reducible refine Stop.mk ?_ | with_reducible refine Join.mk ⟨fun Kv hN hX hR => ?_, ?_⟩ | with_reducible refine DrawJ.each ?_ | with_reducible exact SubJ.self _ | with_reducible refine SubJ.of ?_ | with_reducible refine fill2_step (fun Kf hF => ?_) | with_reducible refine fill2_nil ?_ | with_reducible refine node2_step (fun Kg hG => ?_) | (with_reducible refine hF _ _ ?_; clear hF; clear Kf) | (with_reducible refine hG _ _ _ _ ?_; clear hG; clear Kg)))); all_goals (conv => whnf); all_goals (repeat ((try (clear hG; clear Kg)); clear hN hX hR; clear Kv))
                   all_goals first
                     | exact wrapI (by omega) (by omega)
                     | exact congrArg Rw.ints hW
                     | exact congrArg Rw.ints hW.symm
                     | rfl)
              | (have h2 := of_decide_eq_false (show decide (xs.getD i 0 = id) = false by with_reducible assumption)
                 have h3 := of_decide_eq_true (nt (b := decide ((withP _ (xs.getD i 0)).2 = 0)) (by with_reducible assumption))
                 obtain ⟨y', W, hW, h4⟩ := newP_go (by omega) h2 h3 hl
                 refine ⟨(i + 1, true, y' :: W), ⟨by show i + 1 ≤ xs.length; omega, h4⟩, by show xs.length - (i + 1) < xs.length - i; omega, ?_⟩
                 · (try dsimp only)
                   (repeat' (first | ((with_reducible refine body_intro ?_); (first | ((with_reducible refine seq_intro ?_ (fun Kv hN hX hR => ?_)); (next => exact rfl)) | ((with_reducible refine join_intro ?_ ?_); (next => exact rfl)) | (conv => whnf))) | with_reducible refine body_stop (fun Kv hN hX hR => ?_) | with_reducible refine Stop.mk ?_ | with_reducible refine Join.mk ⟨fun Kv hN hX hR => ?_, ?_⟩ | with_reducible refine DrawJ.each ?_ | with_reducible exact SubJ.self _ | with_reducible refine SubJ.of ?_ | with_reducible refine fill2_step (fun Kf hF => ?_) | with_reducible refine fill2_nil ?_ | with_reducible refine node2_step (fun Kg hG => ?_) | (with_reducible refine hF _ _ ?_; clear hF; clear Kf) | (with_reducible refine hG _ _ _ _ ?_; clear hG; clear Kg) | ((with_reducible refine seq_intro ?_ (fun Kv hN hX hR => ?_)); (next => exact rfl)) | ((with_reducible refine join_intro ?_ ?_); (next => exact rfl)) | (with_reducible refine hN _ ?_; (try (clear hG; clear Kg)); clear hN hX hR; clear Kv) | (with_reducible refine hX _ _ ?_; (try (clear hG; clear Kg)); clear hN hX hR; clear Kv) | (with_reducible refine hR _ ?_; (try (clear hG; clear Kg)); clear hN hX hR; clear Kv) | ((conv => whnf); first | with_reducible rfl | with_reducible exact True.intro | with_reducible intro _ | with_reducible refine And.intro ?_ ?_ | (with_reducible refine hN _ ?_; (try (clear hG; clear Kg)); clear hN hX hR; clear Kv) | (with_reducible refine hX _ _ ?_; (try (clear hG; clear Kg)); clear hN hX hR; clear Kv) | (with_reducible refine hR _ ?_; (try (clear hG; clear Kg)); clear hN hX hR; clear Kv) | with_reducible refine body_stop (fun Kv hN hX hR => ?_) | with_reducible refine Stop.mk ?_ | with_reducible refine Join.mk ⟨fun Kv hN hX hR => ?_, ?_⟩ | with_reducible refine DrawJ.each ?_ | with_reducible exact SubJ.self _ | with_reducible refine SubJ.of ?_ | with_reducible refine fill2_step (fun Kf hF => ?_) | with_reducible refine fill2_nil ?_ | with_reducible refine node2_step (fun Kg hG => ?_) | (with_reducible refine hF _ _ ?_; clear hF; clear Kf) | (with_reducible refine hG _ _ _ _ ?_; clear hG; clear Kg)))); all_goals (conv => whnf); all_goals (repeat ((try (clear hG; clear Kg)); clear hN hX hR; clear Kv))
                   all_goals first
                     | exact wrapI (by omega) (by omega)
                     | exact congrArg Rw.ints hW
                     | exact congrArg Rw.ints hW.symm
                     | rfl))
         | (have h := of_decide_eq_false (show decide ((i : Int) < (xs.length : Nat)) = false by with_reducible assumption)
            rw [newN_yes hid (hl.trans (newP_end (by omega)))] <;> rfl)
         | trace_state)
    | trace_state
end Go.Proofs.Ytaapoiikbolgnaa

/- A symbolic executor for loaded Go code: the library's Grow of nil. -/
namespace Go.Proofs.Ytaapoiikbolgnaa
open Go.RowKit

section
variable {P : Program} {τ : Tys}
/-- What is known of slices.Grow of nil at one type: its walk. -/
structure GrowW (P : Program) (f : FuncId) (e : TypeId) (sz bts : Nat) : Prop where
  ent : Enters P f
  run : ∀ (n : Nat) (w : World), n * bts ≤ 140737488355328 → Calls P f #[.slice none 0 0, .int .i64 n] w fun x w' => ∃ v', x = .returned v' ∧ w'.ownsRow w.heap.size e sz v' 0 [] ∧ Below w.heap.size w w'
theorem mkEmpty_kd {k : Nat} (h : k < 12) : (mkEmpty k).kd = k := by
  match k, h with
  | 0, _ | 1, _ | 2, _ | 3, _ | 4, _ | 5, _ | 6, _ | 7, _ | 8, _ | 9, _ | 10, _ | 11, _ => rfl
/-- Nil, grown: a row of one's own under key dep + q, without elements. -/
def growT (kd q : Nat) : CallT := fun args s K => match args, s with
  | [.nilS _, .int .i64 n], ⟨fr, stk, bx, rw, dep⟩ => match St.has (own0 (dep + q)) ⟨fr, stk, bx, rw, dep⟩ with
    | false => Ob (0 ≤ n ∧ n * kdBytes kd ≤ 140737488355328) ∧ (0 ≤ n ∧ n * kdBytes kd ≤ 140737488355328 → K (.own (dep + q)) ⟨fr, stk, bx, upd rw (dep + q) (.own (mkEmpty kd)), dep⟩)
    | true => False
  | _, _ => False
theorem grow_tr {f kd : Nat} (q : Nat) (hkd : kd < 12) (hW : GrowW P f (τ.et kd) (kdSz kd) (kdBytes kd)) : TrKnown P τ f (growT kd q) := by
  refine ⟨hW.ent, ?_⟩
  intro w0 E s aS w args vals K hd hargs hT
  obtain ⟨fr, stk, bx, rw', dep⟩ := s
  unfold growT at hT
  split at hT
  rotate_left
  · exact hT.elim
  rename_i r n fr' stk' bx' rw2 dep' hs
  injection hs with e1 e2 e3 e4 e5
  subst e1; subst e2; subst e3; subst e4; subst e5
  obtain ⟨v, vs, rfl, h1, h2⟩ := hargs.inv_cons
  obtain ⟨v2, vs, rfl, h3, h4⟩ := h2.inv_cons
  obtain rfl := h4.inv_nil
  obtain ⟨rfl, hr0⟩ : v = .slice none 0 0 ∧ r.len = 0 := h1
  obtain rfl : v2 = .int .i64 n := h3
  split at hT
  rotate_left
  · exact hT.elim
  rename_i hno
  obtain ⟨hob, hT⟩ := hT
  obtain ⟨hn0, hnb⟩ := hob.out
  obtain ⟨m, rfl⟩ := Int.eq_ofNat_of_zero_le hn0
  have hmb : m * kdBytes kd ≤ 140737488355328 := by
    have : ((m * kdBytes kd : Nat) : Int) ≤ 140737488355328 := by rw [Int.natCast_mul]; exact hnb
    omega
  refine (hW.run m w hmb).mono ?_
  rintro e w' ⟨v', rfl, ho, hB⟩
  have hg : w.grownBy w' none := ⟨hB.os, hB.tape, hB.output, hB.size, fun k hk _ => hB.block k hk⟩
  have hk := mkEmpty_kd hkd
  have hl := len_mkEmpty kd
  refine ⟨v', _, _, E.add (dep + q) v', rfl, hT ⟨hn0, hnb⟩, hd.newRow (dep + q) hno w' hg v' (.own (mkEmpty kd)) (mkEmpty kd).len (mkEmpty kd) rfl [] (fun g hg => ho.lt g hg) ?_ ?_ ?_, rfl, Nat.le_refl _, ?_⟩
  · rw [hl]; simp
  · rw [hk, hl]
    unfold Rw.sz
    rw [hk]
    exact ownsRow_less hd.Mh ho
  · intro i j x hi
    rw [hl] at hi
    omega
  · simp [vd3, vd2, vd1, vd0, lk_upd, Env.add]
end
end Go.Proofs.Ytaapoiikbolgnaa

/- slices.Clone at one type: its walk. -/
namespace Go.Proofs.Ytaapoiikbolgnaa
open Go.RowKit
set_option maxHeartbeats 1000000 in
theorem w_ClonePeers : CloneW Try.prog 73 56 2 16 := by
  obtain ⟨hk10, het, ti, hti, hsz, hby, _⟩ := tau_ok.rk 56 3 (by kernel_rfl)
  obtain ⟨x0, z, g1, g2, g3, g4, g5, g6⟩ := (tau_ok.ti _ ti hti).info
  have g2 : x0.size = 2 := g2.trans hsz
  have g3 : x0.bytes = 16 := g3.trans hby
  have g5 : z.cells.size = 2 := g5.trans hsz
  clear hk10 het g6
  have t22 : Try.prog.underlying 23 = some (.slice 56) := Try.underlying23
  have q22 : ∀ (w : World) (a : Option Addr) (n c n' c' : Nat), (binOp .eql 23 (.slice a n c) (.slice none n' c')).run Try.prog w = .ok (.bool a.isNone) w := fun w a n c n' c' => Lib.run_eql_slice_nil w _ _ a n c n' c' t22
  refine ⟨fnOk_enters (fn := Try.f73) (D := []) (by kernel_rfl) (by kernel_rfl), fun n c w => ?_, fun ad n c news w hl hn hbig hc h1 => ?_⟩
  · go_enter Try.func73, Try.ntmps73
    go_wp2
    go_ret
    exact ⟨rfl, rfl⟩
  · have A : Aside (∀ j u, news[j]? = some u → w.cell? (ad.add j) = some u) := hc
    clear hc
    go_enter Try.func73, Try.ntmps73
    go_wp2_with (at_builtin; refine wpList_append_own _ rfl _ _ 23 rfl w.heap.size 56 x0 z 2 16 t22 g1 g4 g2 g3 g5 (by decide) _ _ _ rfl (World.ownsRow_made w #[] 0 (Nat.le_refl _) (Nat.zero_le _) (by simp)) ad n c news rfl ?qc1 ?qc2 ?qc3 ?qc4 ?qc5 ?qc6 ?_)
    case qc1 => exact hl
    case qc2 =>
      intro j u hj
      exact Lib.cell?_alloc_some _ (A.out j u hj)
    case qc3 => exact h1
    case qc4 => rw [Nat.zero_add]; exact hn
    case qc5 => rw [Nat.zero_add]; exact hbig
    case qc6 => simp
    intro v' w1 hown hgrow hnil
    go_wp2
    go_ret
    refine ⟨v', rfl, by simpa using hown, ?_⟩
    exact ((Below.refl _ w).alloc (Nat.le_refl _) _).grown hgrow (by simp) (by intro k hk; simp [Value.ownBlock] at hk; omega)
theorem k_ClonePeers : Known Try.prog tau 73 (S1 dPeers fun l => .ok (.own 0) [.peers l]) := clone_known dPeers .peers (fun _ => rfl) (fun _ => rfl) (kd := 3) (fun _ => rfl) w_ClonePeers
end Go.Proofs.Ytaapoiikbolgnaa

/- Contracts: Grow of nil, Concat of rows of ints; Ids; Copy of a view. -/
namespace Go.Proofs.Ytaapoiikbolgnaa
open Go.RowKit
set_option maxHeartbeats 4000000 in
set_option maxRecDepth 1000000 in
theorem w_GrowInts : GrowW Try.prog 74 3 1 8 := by
  refine ⟨fnOk_enters (fn := Try.f74) (D := []) (by kernel_rfl) (by kernel_rfl), fun n w hb => ?_⟩
  obtain ⟨hk10, het, ti, hti, hsz, hby, _⟩ := tau_ok.rk 3 0 (by kernel_rfl)
  obtain ⟨x0, z, g1, g2, g3, g4, g5, g6⟩ := (tau_ok.ti _ ti hti).info
  have g2 : x0.size = 1 := g2.trans hsz
  have g3 : x0.bytes = 8 := g3.trans hby
  have g5 : z.cells.size = 1 := g5.trans hsz
  clear hk10 het g6
  have t22 : Try.prog.underlying 22 = some (.slice 3) := Try.underlying22
  have tI : Try.prog.underlying 3 = some (.int .i64) := Try.underlying3
  by_cases h0 : n = 0
  · subst h0
    clear g1 g2 g3 g4 g5 hti hsz hby
    go_enter Try.func74, Try.ntmps74
    go_wp2
    go_ret
    exact ⟨_, rfl, World.ownsRow_nil _ _ _ _, Below.refl _ _⟩
  · have hn0 : 0 < n := by omega
    have hrz : ∀ ty, (Builtin.append_ #[22, 3] ty #[.slice none 0 0, .int .i64 (n : Int)]).run Try.prog w = .ok (.slice (some ⟨w.heap.size, 0, none⟩) n (grownCap w n 0 3)) (w.drew.alloc (.cells (Builtin.zeroCells z.cells n ++ Builtin.zeroCells z.cells (grownCap w n 0 3 - n)) 3)) := fun ty =>
      Lib.run_append_nil_zeros w 22 3 ty 3 x0 z .i64 .i64 t22 tI g1 g4 n hn0 (by rw [g2]; decide) (by omega) (by rw [g3]; omega)
    obtain ⟨G, hG⟩ : ∃ G, G = grownCap w n 0 3 := ⟨_, rfl⟩
    rw [← hG] at hrz
    have hGn : n ≤ G := by rw [hG]; exact grownCap_ge w _ _ _
    have hGm : G ≤ maxLen := by rw [hG]; exact grownCap_le_maxLen w n 0 3 (by unfold maxLen; omega)
    obtain ⟨ROW, hROW⟩ : ∃ ROW : Array Value, ROW = Builtin.zeroCells z.cells n ++ Builtin.zeroCells z.cells (G - n) := ⟨_, rfl⟩
    rw [← hROW] at hrz
    have hRs : ROW.size = G * 1 := by
      rw [hROW]
      simp [Builtin.zeroCells, g5]
      omega
    have hnz : ¬ ((n : Int) < 0) := by omega
    have hw0 : IntKind.i64.wrap ((n : Int) - 0) = n := wrapI (by omega) (by omega)
    have hpos : (0 : Int) < (n : Int) := by omega
    have hGi : (0 : Int) ≤ (G : Int) := by omega
    clear g1 g2 g3 g4 g5 hti hsz hby hG hROW
    go_enter Try.func74, Try.ntmps74
    go_wp2_with (at_builtin; refine Lib.wpList_append_run _ rfl _ _ _ _ rfl _ _ rfl rfl _ _ (hrz _) ?_)
    go_wp2
    go_ret
    refine ⟨.slice (some ⟨w.heap.size, 0, none⟩) 0 G, rfl, ⟨rfl, .inr ⟨w.heap.size, G, ROW, rfl, Nat.le_refl _, ?_, Nat.zero_le _, hGm, hRs, by simp⟩⟩, ?_⟩
    · exact Array.getElem?_push_size
    · exact ((Below.refl _ w).drew).alloc (Nat.le_refl _) _
theorem t_GrowInts : TrKnown Try.prog tau 74 (growT 0 24) := grow_tr 24 (by decide) w_GrowInts
theorem flat_succ {l : List (List Int)} {i : Nat} (h : i < l.length) : (l.take (i + 1)).flatten = (l.take i).flatten ++ l.getD i [] := by
  rw [List.take_succ_eq_append_getElem h, List.flatten_append]
  simp [List.getD_eq_getElem?_getD, h]
theorem flat_le (l : List (List Int)) (i : Nat) : (l.take i).flatten.length ≤ l.flatten.length := by
  conv => rhs; rw [← List.take_append_drop i l, List.flatten_append, List.length_append]
  omega
theorem k_Concat : Known Try.prog tau 52 (S1 dIntss fun l => .ob (l.flatten.length * 8 ≤ 140737488355328) (.own 0) [.ints l.flatten]) := by
  refine knownX1 hmix tau_ok (fn := Try.f52) (by kernel_rfl) [] (by kernel_rfl) _ _ fun l hfit hs => ⟨rfl, _, ctx_tr t_GrowInts ctx_nil,
    [(3, invN [3, 5, 11, 12, 13, 14, 15, 16, 17, 18, 19, 20, 21, 22] (fun i => i ≤ l.length) (fun i => withS [(11, .int .i64 i), (3, .int .i64 (l.take i).flatten.length)]) (fun i => l.length - i)),
     (11, invX Nat (24 :: [6, 8, 27, 28, 29, 30, 31, 32, 33, 34]) [] (fun i => i ≤ l.length) (fun i => fun st => withS [(27, .int .i64 i), (6, .own 24)] (withR [(24, .own (.ints (l.take i).flatten))] st)) (fun i => l.length - i))], ?_⟩
  have hlen : l.length * 24 ≤ 140737488355328 := hfit.1.1
  clear hfit
  (repeat' (first | ((with_reducible refine body_intro ?_); (first | ((with_reducible refine seq_intro ?_ (fun Kv hN hX hR => ?_)); (next => exact rfl)) | ((with_reducible refine join_intro ?_ ?_); (next => exact rfl)) | (conv => whnf))) | with_reducible refine body_stop (fun Kv hN hX hR => ?_) | with_reducible refine Stop.mk ?_ | with_reducible refine Join.mk ⟨fun Kv hN hX hR => ?_, ?_⟩ | with_reducible refine DrawJ.each ?_ | with_reducible exact SubJ.self _ | with_reducible refine SubJ.of ?_ | with_reducible refine fill2_step (fun Kf hF => ?_) | with_reducible refine fill2_nil ?_ | with_reducible refine node2_step (fun Kg hG => ?_) | (with_reducible refine hF _ _ ?_; clear hF; clear Kf) | (with_reducible refine hG _ _ _ _ ?_; clear hG; clear Kg) | ((with_reducible refine seq_intro ?_ (fun Kv hN hX hR => ?_)); (next => exact rfl)) | ((with_reducible refine join_intro ?_ ?_); (next => exact rfl)) | (with_reducible refine hN _ ?_; (try (clear hG; clear Kg)); clear hN hX hR; clear Kv) | (with_reducible refine hX _ _ ?_; (try (clear hG; clear Kg)); clear hN hX hR; clear Kv) | (with_reducible refine hR _ ?_; (try (clear hG; clear Kg)); clear hN hX hR; clear Kv) | ((conv => whnf); first | with_reducible rfl | with_reducible exact True.intro | with_reducible refine (fun (_ : (_ : Prop)) => ?_) | with_reducible refine And.intro ?_ ?_ | (with_reducible refine hN _ ?_; (try (clear hG; clear Kg)); clear hN hX hR; clear Kv) | (with_reducible refine hX _ _ ?_; (try (clear hG; clear Kg)); clear hN hX hR; clear Kv) | (with_reducible refine hR _ ?_; (try (clear hG; clear Kg)); clear hN hX hR; clear Kv) | with_reducible refine body_stop (fun Kv hN hX hR => ?_) | with_reducible refine Stop.mk ?_ | with_reducible refine Join.mk ⟨fun Kv hN hX hR => ?_, ?_⟩ | with_reducible refine DrawJ.each ?_ | with_reducible exact SubJ.self _ | with_reducible refine SubJ.of ?_ | with_reducible refine fill2_step (fun Kf hF => ?_) | with_reducible refine fill2_nil ?_ | with_reducible refine node2_step (fun Kg hG => ?_) | (with_reducible refine hF _ _ ?_; clear hF; clear Kf) | (with_reducible refine hG _ _ _ _ ?_; clear hG; clear Kg)))); all_goals (conv => whnf); all_goals (repeat ((try (clear hG; clear Kg)); clear hN hX hR; clear Kv))
  all_goals first
    | (refine ⟨0, Nat.zero_le _, ?_⟩
       (repeat' (first | ((with_reducible refine body_intro ?_); (first | ((with_reducible refine seq_intro ?_ (fun Kv hN hX hR => ?_)); (next => exact rfl)) | ((with_reducible refine join_intro ?_ ?_); (next => exact rfl)) | (conv => whnf))) | with_reducible refine body_stop (fun Kv hN hX hR => ?_) | with_reducible refine Stop.mk ?_ | with_reducible refine Join.mk ⟨fun Kv hN hX hR => ?_, ?_⟩ | with_reducible refine DrawJ.each ?_ | with_reducible exact SubJ.self _ | with_reducible refine SubJ.of ?_ | with_reducible refine fill2_step (fun Kf hF => ?_) | with_reducible refine fill2_nil ?_ | with_reducible refine node2_step (fun Kg hG => ?_) | (with_reducible refine hF _ _ ?_; clear hF; clear Kf) | (with_reducible refine hG _ _ _ _ ?_; clear hG; clear Kg) | ((with_reducible refine seq_intro ?_ (fun Kv hN hX hR => ?_)); (next => exact rfl)) | ((with_reducible refine join_intro ?_ ?_); (next => exact rfl)) | (with_reducible refine hN _ ?_; (try (clear hG; clear Kg)); clear hN hX hR; clear Kv) | (with_reducible refine hX _ _ ?_; (try (clear hG; clear Kg)); clear hN hX hR; clear Kv) | (with_reducible refine hR _ ?_; (try (clear hG; clear Kg)); clear hN hX hR; clear Kv) | ((conv => whnf); first | with_reducible rfl | with_reducible exact True.intro | with_reducible intro _ | with_reducible refine And.intro ?_ ?_ | (with_reducible refine hN _ ?_; (try (clear hG; clear Kg)); clear hN hX hR; clear Kv) | (with_reducible refine hX _ _ ?_; (try (clear hG; clear Kg)); clear hN hX hR; clear Kv) | (with_reducible refine hR _ ?_; (try (clear hG; clear Kg)); clear hN hX hR; clear Kv) | with_reducible refine body_stop (fun Kv hN hX hR => ?_) | with_reducible refine Stop.mk ?_ | with_reducible refine Join.mk ⟨fun Kv hN hX hR => ?_, ?_⟩ | with_reducible refine DrawJ.each ?_ | with_reducible exact SubJ.self _ | with_reducible refine SubJ.of ?_ | with_reducible refine fill2_step (fun Kf hF => ?_) | with_reducible refine fill2_nil ?_ | with_reducible refine node2_step (fun Kg hG => ?_) | (with_reducible refine hF _ _ ?_; clear hF; clear Kf) | (with_reducible refine hG _ _ _ _ ?_; clear hG; clear Kg)))); all_goals (conv => whnf); all_goals (repeat ((try (clear hG; clear Kg)); clear hN hX hR; clear Kv))
       all_goals rfl)
    | (with_reducible intro i hi
       have hi : i ≤ l.length := hi
       have f1 := flat_le l i
       have f2 := flat_le l (i + 1)
       (repeat' (first | ((with_reducible refine body_intro ?_); (first | ((with_reducible refine seq_intro ?_ (fun Kv hN hX hR => ?_)); (next => exact rfl)) | ((with_reducible refine join_intro ?_ ?_); (next => exact rfl)) | (conv => whnf))) | with_reducible refine body_stop (fun Kv hN hX hR => ?_) | with_reducible refine Stop.mk ?_ | with_reducible refine Join.mk ⟨fun Kv hN hX hR => ?_, ?_⟩ | with_reducible refine DrawJ.each ?_ | with_reducible exact SubJ.self _ | with_reducible refine SubJ.of ?_ | with_reducible refine fill2_step (fun Kf hF => ?_) | with_reducible refine fill2_nil ?_ | with_reducible refine node2_step (fun Kg hG => ?_) | (with_reducible refine hF _ _ ?_; clear hF; clear Kf) | (with_reducible refine hG _ _ _ _ ?_; clear hG; clear Kg) | ((with_reducible refine seq_intro ?_ (fun Kv hN hX hR => ?_)); (next => exact rfl)) | ((with_reducible refine join_intro ?_ ?_); (next => exact rfl)) | (with_reducible refine hN _ ?_; (try (clear hG; clear Kg)); clear hN hX hR; clear Kv) | (with_reducible refine hX _ _ ?_; (try (clear hG; clear Kg)); clear hN hX hR; clear Kv) | (with_reducible refine hR _ ?_; (try (clear hG; clear Kg)); clear hN hX hR; clear Kv) | ((conv => whnf); first | with_reducible rfl | with_reducible exact True.intro | with_reducible refine (fun (_ : (_ : Prop)) => ?_) | with_reducible refine And.intro ?_ ?_ | (with_reducible refine hN _ ?_; (try (clear hG; clear Kg)); clear hN hX hR; clear Kv) | (with_reducible refine hX _ _ ?_; (try (clear hG; clear Kg)); clear hN hX hR; clear Kv) | (with_reducible refine hR _ ?_; (try (clear hG; clear Kg)); clear hN hX hR; clear Kv) | with_reducible refine body_stop (fun Kv hN hX hR => ?_) | with_reducible refine Stop.mk ?_ | with_reducible refine Join.mk ⟨fun Kv hN hX hR => ?_, ?_⟩ | with_reducible refine DrawJ.each ?_ | with_reducible exact SubJ.self _ | with_reducible refine SubJ.of ?_ | with_reducible refine fill2_step (fun Kf hF => ?_) | with_reducible refine fill2_nil ?_ | with_reducible refine node2_step (fun Kg hG => ?_) | (with_reducible refine hF _ _ ?_; clear hF; clear Kf) | (with_reducible refine hG _ _ _ _ ?_; clear hG; clear Kg)))); all_goals (conv => whnf); all_goals (repeat ((try (clear hG; clear Kg)); clear hN hX hR; clear Kv))
       all_goals (try simp only [Int.toNat_natCast] at *)
       all_goals first
         | exact Ob.mk ⟨by omega, of_decide_eq_true (by with_reducible assumption)⟩
         | (have h := of_decide_eq_true (show decide ((i : Int) < (l.length : Nat)) = true by with_reducible assumption)
            have e1 := congrArg List.length (flat_succ (l := l) (i := i) (by omega))
            rw [List.length_append] at e1
            have w1 : IntKind.i64.wrap (((l.take i).flatten.length : Int) + ((l.getD i []).length : Int)) = ((l.take (i + 1)).flatten.length : Int) := by
              rw [wrapI (by omega) (by omega), e1]
              omega
            first
              | (exfalso
                 have h3 := of_decide_eq_true (show decide (IntKind.i64.wrap (((l.take i).flatten.length : Int) + ((l.getD i []).length : Int)) < 0) = true by with_reducible assumption)
                 rw [w1] at h3
                 omega)
              | (refine ⟨i + 1, by omega, by omega, ?_⟩
                 (repeat' (first | ((with_reducible refine body_intro ?_); (first | ((with_reducible refine seq_intro ?_ (fun Kv hN hX hR => ?_)); (next => exact rfl)) | ((with_reducible refine join_intro ?_ ?_); (next => exact rfl)) | (conv => whnf))) | with_reducible refine body_stop (fun Kv hN hX hR => ?_) | with_reducible refine Stop.mk ?_ | with_reducible refine Join.mk ⟨fun Kv hN hX hR => ?_, ?_⟩ | with_reducible refine DrawJ.each ?_ | with_reducible exact SubJ.self _ | with_reducible refine SubJ.of ?_ | with_reducible refine fill2_step (fun Kf hF => ?_) | with_reducible refine fill2_nil ?_ | with_reducible refine node2_step (fun Kg hG => ?_) | (with_reducible refine hF _ _ ?_; clear hF; clear Kf) | (with_reducible refine hG _ _ _ _ ?_; clear hG; clear Kg) | ((with_reducible refine seq_intro ?_ (fun Kv hN hX hR => ?_)); (next => exact rfl)) | ((with_reducible refine join_intro ?_ ?_); (next => exact rfl)) | (with_reducible refine hN _ ?_; (try (clear hG; clear Kg)); clear hN hX hR; clear Kv) | (with_reducible refine hX _ _ ?_; (try (clear hG; clear Kg)); clear hN hX hR; clear Kv) | (with_reducible refine hR _ ?_; (try (clear hG; clear Kg)); clear hN hX hR; clear Kv) | ((conv => whnf); first | with_reducible rfl | with_reducible exact True.intro | with_reducible intro _ | with_reducible refine And.intro ?_ ?_ | (with_reducible refine hN _ ?_; (try (clear hG; clear Kg)); clear hN hX hR; clear Kv) | (with_reducible refine hX _ _ ?_; (try (clear hG; clear Kg)); clear hN hX hR; clear Kv) | (with_reducible refine hR _ ?_; (try (clear hG; clear Kg)); clear hN hX hR; clear Kv) | with_reducible refine body_stop (fun Kv hN hX hR => ?_) | with_reducible refine Stop.mk ?_ | with_reducible refine Join.mk ⟨fun Kv hN hX hR => ?_, ?_⟩ | with_reducible refine DrawJ.each ?_ | with_reducible exact SubJ.self _ | with_reducible refine SubJ.of ?_ | with_reducible refine fill2_step (fun Kf hF => ?_) | with_reducible refine fill2_nil ?_ | with_reducible refine node2_step (fun Kg hG => ?_) | (with_reducible refine hF _ _ ?_; clear hF; clear Kf) | (with_reducible refine hG _ _ _ _ ?_; clear hG; clear Kg)))); all_goals (conv => whnf); all_goals (repeat ((try (clear hG; clear Kg)); clear hN hX hR; clear Kv))
                 all_goals first
                   | exact wrapI (by omega) (by omega)
                   | exact w1
                   | rfl))
         | (have h := of_decide_eq_false (show decide ((i : Int) < (l.length : Nat)) = false by with_reducible assumption)
            have e0 : (l.take i).flatten = l.flatten := by rw [List.take_of_length_le (by omega)]
            first
              | (refine Ob.mk ⟨by omega, ?_⟩
                 simp only [kdBytes]
                 omega)
              | (refine ⟨0, Nat.zero_le _, ?_⟩
                 (repeat' (first | ((with_reducible refine body_intro ?_); (first | ((with_reducible refine seq_intro ?_ (fun Kv hN hX hR => ?_)); (next => exact rfl)) | ((with_reducible refine join_intro ?_ ?_); (next => exact rfl)) | (conv => whnf))) | with_reducible refine body_stop (fun Kv hN hX hR => ?_) | with_reducible refine Stop.mk ?_ | with_reducible refine Join.mk ⟨fun Kv hN hX hR => ?_, ?_⟩ | with_reducible refine DrawJ.each ?_ | with_reducible exact SubJ.self _ | with_reducible refine SubJ.of ?_ | with_reducible refine fill2_step (fun Kf hF => ?_) | with_reducible refine fill2_nil ?_ | with_reducible refine node2_step (fun Kg hG => ?_) | (with_reducible refine hF _ _ ?_; clear hF; clear Kf) | (with_reducible refine hG _ _ _ _ ?_; clear hG; clear Kg) | ((with_reducible refine seq_intro ?_ (fun Kv hN hX hR => ?_)); (next => exact rfl)) | ((with_reducible refine join_intro ?_ ?_); (next => exact rfl)) | (with_reducible refine hN _ ?_; (try (clear hG; clear Kg)); clear hN hX hR; clear Kv) | (with_reducible refine hX _ _ ?_; (try (clear hG; clear Kg)); clear hN hX hR; clear Kv) | (with_reducible refine hR _ ?_; (try (clear hG; clear Kg)); clear hN hX hR; clear Kv) | ((conv => whnf); first | with_reducible rfl | with_reducible exact True.intro | with_reducible intro _ | with_reducible refine And.intro ?_ ?_ | (with_reducible refine hN _ ?_; (try (clear hG; clear Kg)); clear hN hX hR; clear Kv) | (with_reducible refine hX _ _ ?_; (try (clear hG; clear Kg)); clear hN hX hR; clear Kv) | (with_reducible refine hR _ ?_; (try (clear hG; clear Kg)); clear hN hX hR; clear Kv) | with_reducible refine body_stop (fun Kv hN hX hR => ?_) | with_reducible refine Stop.mk ?_ | with_reducible refine Join.mk ⟨fun Kv hN hX hR => ?_, ?_⟩ | with_reducible refine DrawJ.each ?_ | with_reducible exact SubJ.self _ | with_reducible refine SubJ.of ?_ | with_reducible refine fill2_step (fun Kf hF => ?_) | with_reducible refine fill2_nil ?_ | with_reducible refine node2_step (fun Kg hG => ?_) | (with_reducible refine hF _ _ ?_; clear hF; clear Kf) | (with_reducible refine hG _ _ _ _ ?_; clear hG; clear Kg)))); all_goals (conv => whnf); all_goals (repeat ((try (clear hG; clear Kg)); clear hN hX hR; clear Kv))
                 all_goals rfl)
              | (with_reducible intro j hj
                 have hj : j ≤ l.length := hj
                 have f3 := flat_le l j
                 have f4 := flat_le l (j + 1)
                 (repeat' (first | ((with_reducible refine body_intro ?_); (first | ((with_reducible refine seq_intro ?_ (fun Kv hN hX hR => ?_)); (next => exact rfl)) | ((with_reducible refine join_intro ?_ ?_); (next => exact rfl)) | (conv => whnf))) | with_reducible refine body_stop (fun Kv hN hX hR => ?_) | with_reducible refine Stop.mk ?_ | with_reducible refine Join.mk ⟨fun Kv hN hX hR => ?_, ?_⟩ | with_reducible refine DrawJ.each ?_ | with_reducible exact SubJ.self _ | with_reducible refine SubJ.of ?_ | with_reducible refine fill2_step (fun Kf hF => ?_) | with_reducible refine fill2_nil ?_ | with_reducible refine node2_step (fun Kg hG => ?_) | (with_reducible refine hF _ _ ?_; clear hF; clear Kf) | (with_reducible refine hG _ _ _ _ ?_; clear hG; clear Kg) | ((with_reducible refine seq_intro ?_ (fun Kv hN hX hR => ?_)); (next => exact rfl)) | ((with_reducible refine join_intro ?_ ?_); (next => exact rfl)) | (with_reducible refine hN _ ?_; (try (clear hG; clear Kg)); clear hN hX hR; clear Kv) | (with_reducible refine hX _ _ ?_; (try (clear hG; clear Kg)); clear hN hX hR; clear Kv) | (with_reducible refine hR _ ?_; (try (clear hG; clear Kg)); clear hN hX hR; clear Kv) | ((conv => whnf); first | with_reducible rfl | with_reducible exact True.intro | with_reducible intro _ | with_reducible refine And.intro ?_ ?_ | (with_reducible refine hN _ ?_; (try (clear hG; clear Kg)); clear hN hX hR; clear Kv) | (with_reducible refine hX _ _ ?_; (try (clear hG; clear Kg)); clear hN hX hR; clear Kv) | (with_reducible refine hR _ ?_; (try (clear hG; clear Kg)); clear hN hX hR; clear Kv) | with_reducible refine body_stop (fun Kv hN hX hR => ?_) | with_reducible refine Stop.mk ?_ | with_reducible refine Join.mk ⟨fun Kv hN hX hR => ?_, ?_⟩ | with_reducible refine DrawJ.each ?_ | with_reducible exact SubJ.self _ | with_reducible refine SubJ.of ?_ | with_reducible refine fill2_step (fun Kf hF => ?_) | with_reducible refine fill2_nil ?_ | with_reducible refine node2_step (fun Kg hG => ?_) | (with_reducible refine hF _ _ ?_; clear hF; clear Kf) | (with_reducible refine hG _ _ _ _ ?_; clear hG; clear Kg)))); all_goals (conv => whnf); all_goals (repeat ((try (clear hG; clear Kg)); clear hN hX hR; clear Kv))
                 all_goals (try simp only [Int.toNat_natCast] at *)
                 all_goals first
                   | exact Ob.mk ⟨by omega, of_decide_eq_true (by with_reducible assumption)⟩
                   | (have h5 := of_decide_eq_true (show decide ((j : Int) < (l.length : Nat)) = true by with_reducible assumption)
                      have e2 := flat_succ (l := l) (i := j) (by omega)
                      have e3 := congrArg List.length e2
                      rw [List.length_append] at e3
                      first
                        | (refine Ob.mk ?_
                           simp only [Rw.len, Rw.bts, Rw.kd, kdBytes] at *
                           omega)
                        | (refine ⟨j + 1, by omega, by omega, ?_⟩
                           (repeat' (first | ((with_reducible refine body_intro ?_); (first | ((with_reducible refine seq_intro ?_ (fun Kv hN hX hR => ?_)); (next => exact rfl)) | ((with_reducible refine join_intro ?_ ?_); (next => exact rfl)) | (conv => whnf))) | with_reducible refine body_stop (fun Kv hN hX hR => ?_) | with_reducible refine Stop.mk ?_ | with_reducible refine Join.mk ⟨fun Kv hN hX hR => ?_, ?_⟩ | with_reducible refine DrawJ.each ?_ | with_reducible exact SubJ.self _ | with_reducible refine SubJ.of ?_ | with_reducible refine fill2_step (fun Kf hF => ?_) | with_reducible refine fill2_nil ?_ | with_reducible refine node2_step (fun Kg hG => ?_) | (with_reducible refine hF _ _ ?_; clear hF; clear Kf) | (with_reducible refine hG _ _ _ _ ?_; clear hG; clear Kg) | ((with_reducible refine seq_intro ?_ (fun Kv hN hX hR => ?_)); (next => exact rfl)) | ((with_reducible refine join_intro ?_ ?_); (next => exact rfl)) | (with_reducible refine hN _ ?_; (try (clear hG; clear Kg)); clear hN hX hR; clear Kv) | (with_reducible refine hX _ _ ?_; (try (clear hG; clear Kg)); clear hN hX hR; clear Kv) | (with_reducible refine hR _ ?_; (try (clear hG; clear Kg)); clear hN hX hR; clear Kv) | ((conv => whnf); first | with_reducible rfl | with_reducible exact True.intro | with_reducible intro _ | with_reducible refine And.intro ?_ ?_ | (with_reducible refine hN _ ?_; (try (clear hG; clear Kg)); clear hN hX hR; clear Kv) | (with_reducible refine hX _ _ ?_; (try (clear hG; clear Kg)); clear hN hX hR; clear Kv) | (with_reducible refine hR _ ?_; (try (clear hG; clear Kg)); clear hN hX hR; clear Kv) | with_reducible refine body_stop (fun Kv hN hX hR => ?_) | with_reducible refine Stop.mk ?_ | with_reducible refine Join.mk ⟨fun Kv hN hX hR => ?_, ?_⟩ | with_reducible refine DrawJ.each ?_ | with_reducible exact SubJ.self _ | with_reducible refine SubJ.of ?_ | with_reducible refine fill2_step (fun Kf hF => ?_) | with_reducible refine fill2_nil ?_ | with_reducible refine node2_step (fun Kg hG => ?_) | (with_reducible refine hF _ _ ?_; clear hF; clear Kf) | (with_reducible refine hG _ _ _ _ ?_; clear hG; clear Kg)))); all_goals (conv => whnf); all_goals (repeat ((try (clear hG; clear Kg)); clear hN hX hR; clear Kv))
                           all_goals first
                             | exact wrapI (by omega) (by omega)
                             | exact congrArg Rw.ints e2.symm
                             | rfl))
                   | (have h5 := of_decide_eq_false (show decide ((j : Int) < (l.length : Nat)) = false by with_reducible assumption)
                      rw [List.take_of_length_le (by omega)])
                   | trace_state)
              | trace_state)
         | trace_state)
    | trace_state
theorem ids_arg {v : GView} (h : fitsV (dPView.e v)) : v.peers.length * 16 ≤ 140737488355328 := h.2.1
theorem k_Ids : Known Try.prog tau 53 (S1 dPView fun v => .ok (.own 0) [.ints (namesP v.peers)]) := by
  refine known1 hmix tau_ok ctx_nil (fn := Try.f53) (by kernel_rfl) [] (by kernel_rfl) _ _ fun v hfit => ⟨rfl,
    [(3, invA Nat [(3, 19, 0)] [3, 5, 11, 12, 13, 14, 15, 16, 17, 18, 19, 20] [19] (fun i => i ≤ v.peers.length) (fun i => fun st => withS [(11, .int .i64 i), (3, .own 19)] (withR [(19, .own (.ints (namesP (v.peers.take i))))] st)) (fun i => v.peers.length - i))], ?_⟩
  have hlen := ids_arg hfit.1
  clear hfit
  (repeat' (first | ((with_reducible refine body_intro ?_); (first | ((with_reducible refine seq_intro ?_ (fun Kv hN hX hR => ?_)); (next => exact rfl)) | ((with_reducible refine join_intro ?_ ?_); (next => exact rfl)) | (conv => whnf))) | with_reducible refine body_stop (fun Kv hN hX hR => ?_) | with_reducible refine Stop.mk ?_ | with_reducible refine Join.mk ⟨fun Kv hN hX hR => ?_, ?_⟩ | with_reducible refine DrawJ.each ?_ | with_reducible exact SubJ.self _ | with_reducible refine SubJ.of ?_ | with_reducible refine fill2_step (fun Kf hF => ?_) | with_reducible refine fill2_nil ?_ | with_reducible refine node2_step (fun Kg hG => ?_) | (with_reducible refine hF _ _ ?_; clear hF; clear Kf) | (with_reducible refine hG _ _ _ _ ?_; clear hG; clear Kg) | ((with_reducible refine seq_intro ?_ (fun Kv hN hX hR => ?_)); (next => exact rfl)) | ((with_reducible refine join_intro ?_ ?_); (next => exact rfl)) | (with_reducible refine hN _ ?_; (try (clear hG; clear Kg)); clear hN hX hR; clear Kv) | (with_reducible refine hX _ _ ?_; (try (clear hG; clear Kg)); clear hN hX hR; clear Kv) | (with_reducible refine hR _ ?_; (try (clear hG; clear Kg)); clear hN hX hR; clear Kv) | ((conv => whnf); first | with_reducible rfl | with_reducible exact True.intro | with_reducible refine (fun (_ : (_ : Prop)) => ?_) | with_reducible refine And.intro ?_ ?_ | (with_reducible refine hN _ ?_; (try (clear hG; clear Kg)); clear hN hX hR; clear Kv) | (with_reducible refine hX _ _ ?_; (try (clear hG; clear Kg)); clear hN hX hR; clear Kv) | (with_reducible refine hR _ ?_; (try (clear hG; clear Kg)); clear hN hX hR; clear Kv) | with_reducible refine body_stop (fun Kv hN hX hR => ?_) | with_reducible refine Stop.mk ?_ | with_reducible refine Join.mk ⟨fun Kv hN hX hR => ?_, ?_⟩ | with_reducible refine DrawJ.each ?_ | with_reducible exact SubJ.self _ | with_reducible refine SubJ.of ?_ | with_reducible refine fill2_step (fun Kf hF => ?_) | with_reducible refine fill2_nil ?_ | with_reducible refine node2_step (fun Kg hG => ?_) | (with_reducible refine hF _ _ ?_; clear hF; clear Kf) | (with_reducible refine hG _ _ _ _ ?_; clear hG; clear Kg)))); all_goals (conv => whnf); all_goals (repeat ((try (clear hG; clear Kg)); clear hN hX hR; clear Kv))
  all_goals first
    | (refine ⟨0, Nat.zero_le _, ?_⟩
       (repeat' (first | ((with_reducible refine body_intro ?_); (first | ((with_reducible refine seq_intro ?_ (fun Kv hN hX hR => ?_)); (next => exact rfl)) | ((with_reducible refine join_intro ?_ ?_); (next => exact rfl)) | (conv => whnf))) | with_reducible refine body_stop (fun Kv hN hX hR => ?_) | with_reducible refine Stop.mk ?_ | with_reducible refine Join.mk ⟨fun Kv hN hX hR => ?_, ?_⟩ | with_reducible refine DrawJ.each ?_ | with_reducible exact SubJ.self _ | with_reducible refine SubJ.of ?_ | with_reducible refine fill2_step (fun Kf hF => ?_) | with_reducible refine fill2_nil ?_ | with_reducible refine node2_step (fun Kg hG => ?_) | (with_reducible refine hF _ _ ?_; clear hF; clear Kf) | (with_reducible refine hG _ _ _ _ ?_; clear hG; clear Kg) | ((with_reducible refine seq_intro ?_ (fun Kv hN hX hR => ?_)); (next => exact rfl)) | ((with_reducible refine join_intro ?_ ?_); (next => exact rfl)) | (with_reducible refine hN _ ?_; (try (clear hG; clear Kg)); clear hN hX hR; clear Kv) | (with_reducible refine hX _ _ ?_; (try (clear hG; clear Kg)); clear hN hX hR; clear Kv) | (with_reducible refine hR _ ?_; (try (clear hG; clear Kg)); clear hN hX hR; clear Kv) | ((conv => whnf); first | with_reducible rfl | with_reducible exact True.intro | with_reducible intro _ | with_reducible refine And.intro ?_ ?_ | (with_reducible refine hN _ ?_; (try (clear hG; clear Kg)); clear hN hX hR; clear Kv) | (with_reducible refine hX _ _ ?_; (try (clear hG; clear Kg)); clear hN hX hR; clear Kv) | (with_reducible refine hR _ ?_; (try (clear hG; clear Kg)); clear hN hX hR; clear Kv) | with_reducible refine body_stop (fun Kv hN hX hR => ?_) | with_reducible refine Stop.mk ?_ | with_reducible refine Join.mk ⟨fun Kv hN hX hR => ?_, ?_⟩ | with_reducible refine DrawJ.each ?_ | with_reducible exact SubJ.self _ | with_reducible refine SubJ.of ?_ | with_reducible refine fill2_step (fun Kf hF => ?_) | with_reducible refine fill2_nil ?_ | with_reducible refine node2_step (fun Kg hG => ?_) | (with_reducible refine hF _ _ ?_; clear hF; clear Kf) | (with_reducible refine hG _ _ _ _ ?_; clear hG; clear Kg)))); all_goals (conv => whnf); all_goals (repeat ((try (clear hG; clear Kg)); clear hN hX hR; clear Kv))
       all_goals rfl)
    | (with_reducible intro i hi
       have hi : i ≤ v.peers.length := hi
       (repeat' (first | ((with_reducible refine body_intro ?_); (first | ((with_reducible refine seq_intro ?_ (fun Kv hN hX hR => ?_)); (next => exact rfl)) | ((with_reducible refine join_intro ?_ ?_); (next => exact rfl)) | (conv => whnf))) | with_reducible refine body_stop (fun Kv hN hX hR => ?_) | with_reducible refine Stop.mk ?_ | with_reducible refine Join.mk ⟨fun Kv hN hX hR => ?_, ?_⟩ | with_reducible refine DrawJ.each ?_ | with_reducible exact SubJ.self _ | with_reducible refine SubJ.of ?_ | with_reducible refine fill2_step (fun Kf hF => ?_) | with_reducible refine fill2_nil ?_ | with_reducible refine node2_step (fun Kg hG => ?_) | (with_reducible refine hF _ _ ?_; clear hF; clear Kf) | (with_reducible refine hG _ _ _ _ ?_; clear hG; clear Kg) | ((with_reducible refine seq_intro ?_ (fun Kv hN hX hR => ?_)); (next => exact rfl)) | ((with_reducible refine join_intro ?_ ?_); (next => exact rfl)) | (with_reducible refine hN _ ?_; (try (clear hG; clear Kg)); clear hN hX hR; clear Kv) | (with_reducible refine hX _ _ ?_; (try (clear hG; clear Kg)); clear hN hX hR; clear Kv) | (with_reducible refine hR _ ?_; (try (clear hG; clear Kg)); clear hN hX hR; clear Kv) | ((conv => whnf); first | with_reducible rfl | with_reducible exact True.intro | with_reducible intro _ | with_reducible refine And.intro ?_ ?_ | (with_reducible refine hN _ ?_; (try (clear hG; clear Kg)); clear hN hX hR; clear Kv) | (with_reducible refine hX _ _ ?_; (try (clear hG; clear Kg)); clear hN hX hR; clear Kv) | (with_reducible refine hR _ ?_; (try (clear hG; clear Kg)); clear hN hX hR; clear Kv) | with_reducible refine body_stop (fun Kv hN hX hR => ?_) | with_reducible refine Stop.mk ?_ | with_reducible refine Join.mk ⟨fun Kv hN hX hR => ?_, ?_⟩ | with_reducible refine DrawJ.each ?_ | with_reducible exact SubJ.self _ | with_reducible refine SubJ.of ?_ | with_reducible refine fill2_step (fun Kf hF => ?_) | with_reducible refine fill2_nil ?_ | with_reducible refine node2_step (fun Kg hG => ?_) | (with_reducible refine hF _ _ ?_; clear hF; clear Kf) | (with_reducible refine hG _ _ _ _ ?_; clear hG; clear Kg)))); all_goals (conv => whnf); all_goals (repeat ((try (clear hG; clear Kg)); clear hN hX hR; clear Kv))
       all_goals (try simp only [Int.toNat_natCast] at *)
       all_goals first
         | exact Ob.mk ⟨by omega, of_decide_eq_true (by with_reducible assumption)⟩
         | (refine Ob.mk ?_
            simp only [Rw.len, Rw.bts, Rw.kd, kdBytes, List.length_cons, List.length_nil, List.length_append, namesP_len, List.length_take]
            omega)
         | (have h := of_decide_eq_true (show decide ((i : Int) < (v.peers.length : Nat)) = true by with_reducible assumption)
            refine ⟨i + 1, by omega, by omega, ?_⟩
            have e1 := namesP_succ (l := v.peers) (i := i) (by omega)
            (repeat' (first | ((with_reducible refine body_intro ?_); (first | ((with_reducible refine seq_intro ?_ (fun Kv hN hX hR => ?_)); (next => exact rfl)) | ((with_reducible refine join_intro ?_ ?_); (next => exact rfl)) | (conv => whnf))) | with_reducible refine body_stop (fun Kv hN hX hR => ?_) | with_reducible refine Stop.mk ?_ | with_reducible refine Join.mk ⟨fun Kv hN hX hR => ?_, ?_⟩ | with_reducible refine DrawJ.each ?_ | with_reducible exact SubJ.self _ | with_reducible refine SubJ.of ?_ | with_reducible refine fill2_step (fun Kf hF => ?_) | with_reducible refine fill2_nil ?_ | with_reducible refine node2_step (fun Kg hG => ?_) | (with_reducible refine hF _ _ ?_; clear hF; clear Kf) | (with_reducible refine hG _ _ _ _ ?_; clear hG; clear Kg) | ((with_reducible refine seq_intro ?_ (fun Kv hN hX hR => ?_)); (next => exact rfl)) | ((with_reducible refine join_intro ?_ ?_); (next => exact rfl)) | (with_reducible refine hN _ ?_; (try (clear hG; clear Kg)); clear hN hX hR; clear Kv) | (with_reducible refine hX _ _ ?_; (try (clear hG; clear Kg)); clear hN hX hR; clear Kv) | (with_reducible refine hR _ ?_; (try (clear hG; clear Kg)); clear hN hX hR; clear Kv) | ((conv => whnf); first | with_reducible rfl | with_reducible exact True.intro | with_reducible intro _ | with_reducible refine And.intro ?_ ?_ | (with_reducible refine hN _ ?_; (try (clear hG; clear Kg)); clear hN hX hR; clear Kv) | (with_reducible refine hX _ _ ?_; (try (clear hG; clear Kg)); clear hN hX hR; clear Kv) | (with_reducible refine hR _ ?_; (try (clear hG; clear Kg)); clear hN hX hR; clear Kv) | with_reducible refine body_stop (fun Kv hN hX hR => ?_) | with_reducible refine Stop.mk ?_ | with_reducible refine Join.mk ⟨fun Kv hN hX hR => ?_, ?_⟩ | with_reducible refine DrawJ.each ?_ | with_reducible exact SubJ.self _ | with_reducible refine SubJ.of ?_ | with_reducible refine fill2_step (fun Kf hF => ?_) | with_reducible refine fill2_nil ?_ | with_reducible refine node2_step (fun Kg hG => ?_) | (with_reducible refine hF _ _ ?_; clear hF; clear Kf) | (with_reducible refine hG _ _ _ _ ?_; clear hG; clear Kg)))); all_goals (conv => whnf); all_goals (repeat ((try (clear hG; clear Kg)); clear hN hX hR; clear Kv))
            all_goals first
              | exact wrapI (by omega) (by omega)
              | exact congrArg Rw.ints e1.symm
              | rfl)
         | (have h := of_decide_eq_false (show decide ((i : Int) < (v.peers.length : Nat)) = false by with_reducible assumption)
            rw [List.take_of_length_le (by omega)])
         | trace_state)
    | trace_state
end Go.Proofs.Ytaapoiikbolgnaa

/- Contracts: peers that age; a view's copy; time that goes by. -/
namespace Go.Proofs.Ytaapoiikbolgnaa
open Go.RowKit
def leftP : List GPeer → List GPeer
  | [] => []
  | p :: l => if p.missed + 1 = 3 then leftP l else ⟨p.id, p.missed + 1⟩ :: leftP l
def lostP : List GPeer → List Int
  | [] => []
  | p :: l => if p.missed + 1 = 3 then p.id :: lostP l else lostP l
theorem leftP_app (a b : List GPeer) : leftP (a ++ b) = leftP a ++ leftP b := by
  induction a with
  | nil => rfl
  | cons p a ih => simp only [List.cons_append, leftP, ih]; split <;> rfl
theorem lostP_app (a b : List GPeer) : lostP (a ++ b) = lostP a ++ lostP b := by
  induction a with
  | nil => rfl
  | cons p a ih => simp only [List.cons_append, lostP, ih]; split <;> rfl
theorem leftP_succ {l : List GPeer} {i : Nat} (h : i < l.length) : leftP (l.take (i + 1)) = leftP (l.take i) ++ (if (l.getD i default).missed + 1 = 3 then [] else [⟨(l.getD i default).id, (l.getD i default).missed + 1⟩]) := by
  rw [List.take_succ_eq_append_getElem h, leftP_app, ← etaP h]
  simp only [leftP]
theorem lostP_succ {l : List GPeer} {i : Nat} (h : i < l.length) : lostP (l.take (i + 1)) = lostP (l.take i) ++ (if (l.getD i default).missed + 1 = 3 then [(l.getD i default).id] else []) := by
  rw [List.take_succ_eq_append_getElem h, lostP_app, ← etaP h]
  simp only [lostP]
theorem leftP_len (l : List GPeer) : (leftP l).length ≤ l.length := by
  induction l with
  | nil => exact Nat.le_refl _
  | cons p l ih => simp only [leftP]; split <;> simp <;> omega
theorem lostP_len (l : List GPeer) : (lostP l).length ≤ l.length := by
  induction l with
  | nil => exact Nat.le_refl _
  | cons p l ih => simp only [lostP]; split <;> simp <;> omega
theorem leftlost_len (l : List GPeer) : (leftP l).length + (lostP l).length = l.length := by
  induction l with
  | nil => rfl
  | cons p l ih => simp only [leftP, lostP]; split <;> simp <;> omega
noncomputable def ageP (b : Int) (l : List GPeer) : List GPeer × List Int × Int := Classical.choose (seal_ex (if peersB b l = true then (leftP l, lostP l, (0 : Int)) else ([], [], 700)))
theorem ageP_def (b : Int) (l : List GPeer) : ageP b l = if peersB b l = true then (leftP l, lostP l, 0) else ([], [], 700) := Classical.choose_spec (seal_ex _)
theorem ageP_yes {b : Int} {l : List GPeer} (h : peersB b l = true) : ageP b l = (leftP l, lostP l, 0) := by rw [ageP_def, if_pos h]
theorem ageP_no {b : Int} {l : List GPeer} (h : peersB b l = false) : ageP b l = ([], [], 700) := by rw [ageP_def, if_neg (by rw [h]; simp)]
noncomputable def oAge (b : Int) (l : List GPeer) : Out := .ok (.tup [.own 0, .own 1, .int .i64 (ageP b l).2.2]) [.peers (ageP b l).1, .ints (ageP b l).2.1]
theorem missed_in {b : Int} {l : List GPeer} {i : Nat} (h : peersB b l = true) (hi : i < l.length) : 0 ≤ (l.getD i default).missed ∧ (l.getD i default).missed < 3 := by
  have := (peersB_iff.1 h).2.2.2 _ (getD_mem (d := default) hi)
  simp only [peerB, Bool.and_eq_true, decide_eq_true_eq] at this
  omega
set_option maxHeartbeats 1000000 in
theorem k_peersAge : Known Try.prog tau 51 (S2 dInt dPeers oAge) := by
  refine known2 hmix tau_ok (ctx_cons k_peersMay ctx_nil) (fn := Try.f51) (by kernel_rfl) [] (by kernel_rfl) _ _ _ fun b l hfit => ⟨rfl,
    [(6, invA Nat [(7, 36, 3), (8, 32, 0)] [7, 8, 10, 17, 18, 19, 20, 21, 22, 23, 24, 25, 26, 27, 28, 29, 30, 31, 32, 33, 34, 35, 36, 37] [32, 36] (fun i => i ≤ l.length) (fun i => fun st => withS [(17, .int .i64 i), (7, .own 36), (8, .own 32)] (withR [(36, .own (.peers (leftP (l.take i)))), (32, .own (.ints (lostP (l.take i))))] st)) (fun i => l.length - i))], ?_⟩
  have hlen : l.length * 16 ≤ 140737488355328 := hfit.2.1
  clear hfit
  (repeat' (first | ((with_reducible refine body_intro ?_); (first | ((with_reducible refine seq_intro ?_ (fun Kv hN hX hR => ?_)); (next => exact rfl)) | ((with_reducible refine join_intro ?_ ?_); (next => exact rfl)) | (conv => whnf))) | with_reducible refine body_stop (fun Kv hN hX hR => ?_) | with_reducible refine Stop.mk ?_ | with_reducible refine Join.mk ⟨fun Kv hN hX hR => ?_, ?_⟩ | with_reducible refine DrawJ.each ?_ | with_reducible exact SubJ.self _ | with_reducible refine SubJ.of ?_ | with_reducible refine fill2_step (fun Kf hF => ?_) | with_reducible refine fill2_nil ?_ | with_reducible refine node2_step (fun Kg hG => ?_) | (with_reducible refine hF _ _ ?_; clear hF; clear Kf) | (with_reducible refine hG _ _ _ _ ?_; clear hG; clear Kg) | ((with_reducible refine seq_intro ?_ (fun Kv hN hX hR => ?_)); (next => exact rfl)) | ((with_reducible refine join_intro ?_ ?_); (next => exact rfl)) | (with_reducible refine hN _ ?_; (try (clear hG; clear Kg)); clear hN hX hR; clear Kv) | (with_reducible refine hX _ _ ?_; (try (clear hG; clear Kg)); clear hN hX hR; clear Kv) | (with_reducible refine hR _ ?_; (try (clear hG; clear Kg)); clear hN hX hR; clear Kv) | ((conv => whnf); first | with_reducible rfl | with_reducible exact True.intro | with_reducible refine (fun (_ : (_ : Prop)) => ?_) | with_reducible refine And.intro ?_ ?_ | (with_reducible refine hN _ ?_; (try (clear hG; clear Kg)); clear hN hX hR; clear Kv) | (with_reducible refine hX _ _ ?_; (try (clear hG; clear Kg)); clear hN hX hR; clear Kv) | (with_reducible refine hR _ ?_; (try (clear hG; clear Kg)); clear hN hX hR; clear Kv) | with_reducible refine body_stop (fun Kv hN hX hR => ?_) | with_reducible refine Stop.mk ?_ | with_reducible refine Join.mk ⟨fun Kv hN hX hR => ?_, ?_⟩ | with_reducible refine DrawJ.each ?_ | with_reducible exact SubJ.self _ | with_reducible refine SubJ.of ?_ | with_reducible refine fill2_step (fun Kf hF => ?_) | with_reducible refine fill2_nil ?_ | with_reducible refine node2_step (fun Kg hG => ?_) | (with_reducible refine hF _ _ ?_; clear hF; clear Kf) | (with_reducible refine hG _ _ _ _ ?_; clear hG; clear Kg)))); all_goals (conv => whnf); all_goals (repeat ((try (clear hG; clear Kg)); clear hN hX hR; clear Kv))
  all_goals first
    | (rw [ageP_no (nf (by with_reducible assumption))] <;> rfl)
    | (refine ⟨0, Nat.zero_le _, ?_⟩
       (repeat' (first | ((with_reducible refine body_intro ?_); (first | ((with_reducible refine seq_intro ?_ (fun Kv hN hX hR => ?_)); (next => exact rfl)) | ((with_reducible refine join_intro ?_ ?_); (next => exact rfl)) | (conv => whnf))) | with_reducible refine body_stop (fun Kv hN hX hR => ?_) | with_reducible refine Stop.mk ?_ | with_reducible refine Join.mk ⟨fun Kv hN hX hR => ?_, ?_⟩ | with_reducible refine DrawJ.each ?_ | with_reducible exact SubJ.self _ | with_reducible refine SubJ.of ?_ | with_reducible refine fill2_step (fun Kf hF => ?_) | with_reducible refine fill2_nil ?_ | with_reducible refine node2_step (fun Kg hG => ?_) | (with_reducible refine hF _ _ ?_; clear hF; clear Kf) | (with_reducible refine hG _ _ _ _ ?_; clear hG; clear Kg) | ((with_reducible refine seq_intro ?_ (fun Kv hN hX hR => ?_)); (next => exact rfl)) | ((with_reducible refine join_intro ?_ ?_); (next => exact rfl)) | (with_reducible refine hN _ ?_; (try (clear hG; clear Kg)); clear hN hX hR; clear Kv) | (with_reducible refine hX _ _ ?_; (try (clear hG; clear Kg)); clear hN hX hR; clear Kv) | (with_reducible refine hR _ ?_; (try (clear hG; clear Kg)); clear hN hX hR; clear Kv) | ((conv => whnf); first | with_reducible rfl | with_reducible exact True.intro | with_reducible intro _ | with_reducible refine And.intro ?_ ?_ | (with_reducible refine hN _ ?_; (try (clear hG; clear Kg)); clear hN hX hR; clear Kv) | (with_reducible refine hX _ _ ?_; (try (clear hG; clear Kg)); clear hN hX hR; clear Kv) | (with_reducible refine hR _ ?_; (try (clear hG; clear Kg)); clear hN hX hR; clear Kv) | with_reducible refine body_stop (fun Kv hN hX hR => ?_) | with_reducible refine Stop.mk ?_ | with_reducible refine Join.mk ⟨fun Kv hN hX hR => ?_, ?_⟩ | with_reducible refine DrawJ.each ?_ | with_reducible exact SubJ.self _ | with_reducible refine SubJ.of ?_ | with_reducible refine fill2_step (fun Kf hF => ?_) | with_reducible refine fill2_nil ?_ | with_reducible refine node2_step (fun Kg hG => ?_) | (with_reducible refine hF _ _ ?_; clear hF; clear Kf) | (with_reducible refine hG _ _ _ _ ?_; clear hG; clear Kg)))); all_goals (conv => whnf); all_goals (repeat ((try (clear hG; clear Kg)); clear hN hX hR; clear Kv))
       all_goals rfl)
    | (with_reducible intro i hi
       have hi : i ≤ l.length := hi
       have hB : peersB b l = true := nt (by with_reducible assumption)
       (repeat' (first | ((with_reducible refine body_intro ?_); (first | ((with_reducible refine seq_intro ?_ (fun Kv hN hX hR => ?_)); (next => exact rfl)) | ((with_reducible refine join_intro ?_ ?_); (next => exact rfl)) | (conv => whnf))) | with_reducible refine body_stop (fun Kv hN hX hR => ?_) | with_reducible refine Stop.mk ?_ | with_reducible refine Join.mk ⟨fun Kv hN hX hR => ?_, ?_⟩ | with_reducible refine DrawJ.each ?_ | with_reducible exact SubJ.self _ | with_reducible refine SubJ.of ?_ | with_reducible refine fill2_step (fun Kf hF => ?_) | with_reducible refine fill2_nil ?_ | with_reducible refine node2_step (fun Kg hG => ?_) | (with_reducible refine hF _ _ ?_; clear hF; clear Kf) | (with_reducible refine hG _ _ _ _ ?_; clear hG; clear Kg) | ((with_reducible refine seq_intro ?_ (fun Kv hN hX hR => ?_)); (next => exact rfl)) | ((with_reducible refine join_intro ?_ ?_); (next => exact rfl)) | (with_reducible refine hN _ ?_; (try (clear hG; clear Kg)); clear hN hX hR; clear Kv) | (with_reducible refine hX _ _ ?_; (try (clear hG; clear Kg)); clear hN hX hR; clear Kv) | (with_reducible refine hR _ ?_; (try (clear hG; clear Kg)); clear hN hX hR; clear Kv) | ((conv => whnf); first | with_reducible rfl | with_reducible exact True.intro | with_reducible intro _ | with_reducible refine And.intro ?_ ?_ | (with_reducible refine hN _ ?_; (try (clear hG; clear Kg)); clear hN hX hR; clear Kv) | (with_reducible refine hX _ _ ?_; (try (clear hG; clear Kg)); clear hN hX hR; clear Kv) | (with_reducible refine hR _ ?_; (try (clear hG; clear Kg)); clear hN hX hR; clear Kv) | with_reducible refine body_stop (fun Kv hN hX hR => ?_) | with_reducible refine Stop.mk ?_ | with_reducible refine Join.mk ⟨fun Kv hN hX hR => ?_, ?_⟩ | with_reducible refine DrawJ.each ?_ | with_reducible exact SubJ.self _ | with_reducible refine SubJ.of ?_ | with_reducible refine fill2_step (fun Kf hF => ?_) | with_reducible refine fill2_nil ?_ | with_reducible refine node2_step (fun Kg hG => ?_) | (with_reducible refine hF _ _ ?_; clear hF; clear Kf) | (with_reducible refine hG _ _ _ _ ?_; clear hG; clear Kg)))); all_goals (conv => whnf); all_goals (repeat ((try (clear hG; clear Kg)); clear hN hX hR; clear Kv))
       all_goals (try simp only [Int.toNat_natCast] at *)
       all_goals first
         | exact Ob.mk ⟨by omega, of_decide_eq_true (by with_reducible assumption)⟩
         | (refine Ob.mk ?_
            have g1 := leftP_len (l.take i)
            have g2 := lostP_len (l.take i)
            simp only [Rw.len, Rw.bts, Rw.kd, kdBytes, List.length_cons, List.length_nil, List.length_append, List.length_take] at *
            omega)
         | (have h := of_decide_eq_true (show decide ((i : Int) < (l.length : Nat)) = true by with_reducible assumption)
            have hm := missed_in hB (i := i) (by omega)
            have w1 : IntKind.i64.wrap ((l.getD i default).missed + 1) = (l.getD i default).missed + 1 := wrapI (by omega) (by omega)
            have e1 := leftP_succ (l := l) (i := i) (by omega)
            have e2 := lostP_succ (l := l) (i := i) (by omega)
            first
              | (have h3 := of_decide_eq_true (show decide (IntKind.i64.wrap ((l.getD i default).missed + 1) = 3) = true by with_reducible assumption)
                 rw [w1] at h3
                 rw [if_pos h3] at e1 e2
                 rw [List.append_nil] at e1
                 refine ⟨i + 1, by omega, by omega, ?_⟩
                 (repeat' (first | ((with_reducible refine body_intro ?_); (first | ((with_reducible refine seq_intro ?_ (fun Kv hN hX hR => ?_)); (next => exact rfl)) | ((with_reducible refine join_intro ?_ ?_); (next => exact rfl)) | (conv => whnf))) | with_reducible refine body_stop (fun Kv hN hX hR => ?_) | with_reducible refine Stop.mk ?_ | with_reducible refine Join.mk ⟨fun Kv hN hX hR => ?_, ?_⟩ | with_reducible refine DrawJ.each ?_ | with_reducible exact SubJ.self _ | with_reducible refine SubJ.of ?_ | with_reducible refine fill2_step (fun Kf hF => ?_) | with_reducible refine fill2_nil ?_ | with_reducible refine node2_step (fun Kg hG => ?_) | (with_reducible refine hF _ _ ?_; clear hF; clear Kf) | (with_reducible refine hG _ _ _ _ ?_; clear hG; clear Kg) | ((with_reducible refine seq_intro ?_ (fun Kv hN hX hR => ?_)); (next => exact rfl)) | ((with_reducible refine join_intro ?_ ?_); (next => exact rfl)) | (with_reducible refine hN _ ?_; (try (clear hG; clear Kg)); clear hN hX hR; clear Kv) | (with_reducible refine hX _ _ ?_; (try (clear hG; clear Kg)); clear hN hX hR; clear Kv) | (with_reducible refine hR _ ?_; (try (clear hG; clear Kg)); clear hN hX hR; clear Kv) | ((conv => whnf); first | with_reducible rfl | with_reducible exact True.intro | with_reducible intro _ | with_reducible refine And.intro ?_ ?_ | (with_reducible refine hN _ ?_; (try (clear hG; clear Kg)); clear hN hX hR; clear Kv) | (with_reducible refine hX _ _ ?_; (try (clear hG; clear Kg)); clear hN hX hR; clear Kv) | (with_reducible refine hR _ ?_; (try (clear hG; clear Kg)); clear hN hX hR; clear Kv) | with_reducible refine body_stop (fun Kv hN hX hR => ?_) | with_reducible refine Stop.mk ?_ | with_reducible refine Join.mk ⟨fun Kv hN hX hR => ?_, ?_⟩ | with_reducible refine DrawJ.each ?_ | with_reducible exact SubJ.self _ | with_reducible refine SubJ.of ?_ | with_reducible refine fill2_step (fun Kf hF => ?_) | with_reducible refine fill2_nil ?_ | with_reducible refine node2_step (fun Kg hG => ?_) | (with_reducible refine hF _ _ ?_; clear hF; clear Kf) | (with_reducible refine hG _ _ _ _ ?_; clear hG; clear Kg)))); all_goals (conv => whnf); all_goals (repeat ((try (clear hG; clear Kg)); clear hN hX hR; clear Kv))
                 all_goals first
                   | exact wrapI (by omega) (by omega)
                   | exact congrArg Rw.peers e1.symm
                   | exact congrArg Rw.ints e2.symm
                   | rfl)
              | (have h3 := of_decide_eq_false (show decide (IntKind.i64.wrap ((l.getD i default).missed + 1) = 3) = false by with_reducible assumption)
                 rw [w1] at h3
                 rw [if_neg h3] at e1 e2
                 rw [List.append_nil] at e2
                 rw [← w1] at e1
                 refine ⟨i + 1, by omega, by omega, ?_⟩
                 (repeat' (first | ((with_reducible refine body_intro ?_); (first | ((with_reducible refine seq_intro ?_ (fun Kv hN hX hR => ?_)); (next => exact rfl)) | ((with_reducible refine join_intro ?_ ?_); (next => exact rfl)) | (conv => whnf))) | with_reducible refine body_stop (fun Kv hN hX hR => ?_) | with_reducible refine Stop.mk ?_ | with_reducible refine Join.mk ⟨fun Kv hN hX hR => ?_, ?_⟩ | with_reducible refine DrawJ.each ?_ | with_reducible exact SubJ.self _ | with_reducible refine SubJ.of ?_ | with_reducible refine fill2_step (fun Kf hF => ?_) | with_reducible refine fill2_nil ?_ | with_reducible refine node2_step (fun Kg hG => ?_) | (with_reducible refine hF _ _ ?_; clear hF; clear Kf) | (with_reducible refine hG _ _ _ _ ?_; clear hG; clear Kg) | ((with_reducible refine seq_intro ?_ (fun Kv hN hX hR => ?_)); (next => exact rfl)) | ((with_reducible refine join_intro ?_ ?_); (next => exact rfl)) | (with_reducible refine hN _ ?_; (try (clear hG; clear Kg)); clear hN hX hR; clear Kv) | (with_reducible refine hX _ _ ?_; (try (clear hG; clear Kg)); clear hN hX hR; clear Kv) | (with_reducible refine hR _ ?_; (try (clear hG; clear Kg)); clear hN hX hR; clear Kv) | ((conv => whnf); first | with_reducible rfl | with_reducible exact True.intro | with_reducible intro _ | with_reducible refine And.intro ?_ ?_ | (with_reducible refine hN _ ?_; (try (clear hG; clear Kg)); clear hN hX hR; clear Kv) | (with_reducible refine hX _ _ ?_; (try (clear hG; clear Kg)); clear hN hX hR; clear Kv) | (with_reducible refine hR _ ?_; (try (clear hG; clear Kg)); clear hN hX hR; clear Kv) | with_reducible refine body_stop (fun Kv hN hX hR => ?_) | with_reducible refine Stop.mk ?_ | with_reducible refine Join.mk ⟨fun Kv hN hX hR => ?_, ?_⟩ | with_reducible refine DrawJ.each ?_ | with_reducible exact SubJ.self _ | with_reducible refine SubJ.of ?_ | with_reducible refine fill2_step (fun Kf hF => ?_) | with_reducible refine fill2_nil ?_ | with_reducible refine node2_step (fun Kg hG => ?_) | (with_reducible refine hF _ _ ?_; clear hF; clear Kf) | (with_reducible refine hG _ _ _ _ ?_; clear hG; clear Kg)))); all_goals (conv => whnf); all_goals (repeat ((try (clear hG; clear Kg)); clear hN hX hR; clear Kv))
                 all_goals first
                   | exact wrapI (by omega) (by omega)
                   | exact congrArg Rw.peers e1.symm
                   | exact congrArg Rw.ints e2.symm
                   | rfl))
         | (have h := of_decide_eq_false (show decide ((i : Int) < (l.length : Nat)) = false by with_reducible assumption)
            first
              | (rw [ageP_yes hB]; done)
              | (rw [ageP_yes hB, List.take_of_length_le (by omega)]; done))
         | trace_state)
    | trace_state
theorem k_viewCopy : Known Try.prog tau 50 (S1 dView fun v => .ok (.agg [.int .i64 v.id, .own 0, .own 1]) [.peers v.peers, .ints v.passive]) := by
  refine known1 hmix tau_ok (ctx_cons k_ClonePeers (ctx_cons k_CloneInts ctx_nil)) (fn := Try.f50) (by kernel_rfl) [(1, [(0, 0), (1, 1), (2, 2), (3, 0), (4, 8), (5, 20), (6, 31), (7, 127), (8, 255), (9, 511)])] (by kernel_rfl) _ _ fun v hfit => ⟨rfl, [], ?_⟩
  clear hfit
  (repeat' (first | ((with_reducible refine body_intro ?_); (first | ((with_reducible refine seq_intro ?_ (fun Kv hN hX hR => ?_)); (next => exact rfl)) | ((with_reducible refine join_intro ?_ ?_); (next => exact rfl)) | (conv => whnf))) | with_reducible refine body_stop (fun Kv hN hX hR => ?_) | with_reducible refine Stop.mk ?_ | with_reducible refine Join.mk ⟨fun Kv hN hX hR => ?_, ?_⟩ | with_reducible apply DrawJ.join | with_reducible exact SubJ.self _ | ((with_reducible refine SubJ.of ?_); (repeat' (first | with_reducible rfl | ((conv => whnf) <;> (first | with_reducible exact True.intro | with_reducible refine And.intro ?_ ?_ | with_reducible rfl | ((conv => rhs; whnf) <;> with_reducible rfl))))); done) | with_reducible refine fill2_step (fun Kf hF => ?_) | with_reducible refine fill2_nil ?_ | with_reducible refine node2_step (fun Kg hG => ?_) | (with_reducible refine hF _ _ ?_; clear hF; clear Kf) | (with_reducible refine hG _ _ _ _ ?_; clear hG; clear Kg) | ((with_reducible refine seq_intro ?_ (fun Kv hN hX hR => ?_)); (next => exact rfl)) | ((with_reducible refine join_intro ?_ ?_); (next => exact rfl)) | (with_reducible refine hN _ ?_; (try (clear hG; clear Kg)); clear hN hX hR; clear Kv) | (with_reducible refine hX _ _ ?_; (try (clear hG; clear Kg)); clear hN hX hR; clear Kv) | (with_reducible refine hR _ ?_; (try (clear hG; clear Kg)); clear hN hX hR; clear Kv) | ((conv => whnf); first | with_reducible rfl | with_reducible exact True.intro | with_reducible intro _ | with_reducible refine And.intro ?_ ?_ | (with_reducible refine hN _ ?_; (try (clear hG; clear Kg)); clear hN hX hR; clear Kv) | (with_reducible refine hX _ _ ?_; (try (clear hG; clear Kg)); clear hN hX hR; clear Kv) | (with_reducible refine hR _ ?_; (try (clear hG; clear Kg)); clear hN hX hR; clear Kv) | with_reducible refine body_stop (fun Kv hN hX hR => ?_) | with_reducible refine Stop.mk ?_ | with_reducible refine Join.mk ⟨fun Kv hN hX hR => ?_, ?_⟩ | with_reducible apply DrawJ.join | with_reducible exact SubJ.self _ | ((with_reducible refine SubJ.of ?_); (repeat' (first | with_reducible rfl | ((conv => whnf) <;> (first | with_reducible exact True.intro | with_reducible refine And.intro ?_ ?_ | with_reducible rfl | ((conv => rhs; whnf) <;> with_reducible rfl))))); done) | with_reducible refine fill2_step (fun Kf hF => ?_) | with_reducible refine fill2_nil ?_ | with_reducible refine node2_step (fun Kg hG => ?_) | (with_reducible refine hF _ _ ?_; clear hF; clear Kf) | (with_reducible refine hG _ _ _ _ ?_; clear hG; clear Kg)))); all_goals (conv => whnf); all_goals (repeat ((try (clear hG; clear Kg)); clear hN hX hR; clear Kv))
  all_goals first
    | rfl
    | trace_state
end Go.Proofs.Ytaapoiikbolgnaa

/- Contracts: time that goes by: the program's. -/
namespace Go.Proofs.Ytaapoiikbolgnaa
open Go.RowKit
/-- Those that are lost are passive. -/
noncomputable def foldW : List Int → List Int → List Int
  | acc, [] => acc
  | acc, x :: l => foldW (withP acc x).1 l
theorem foldW_next {acc l : List Int} {i : Nat} (h : i < l.length) : foldW acc (l.drop i) = foldW (withP acc (l.getD i 0)).1 (l.drop (i + 1)) := by
  rw [drop_one_more (d := 0) h, foldW]
theorem foldW_end {acc l : List Int} {i : Nat} (h : ¬ i < l.length) : foldW acc (l.drop i) = acc := by
  rw [List.drop_eq_nil_of_le (by omega)]
  rfl
theorem withP_len (l : List Int) (x : Int) : (withP l x).1.length ≤ l.length + 1 := by
  rw [withP_def]
  split
  · split
    · simp
    · split
      · simp
      · simp [insP_len]
  · simp
theorem foldW_len : ∀ (l acc : List Int), (foldW acc l).length ≤ acc.length + l.length
  | [], acc => by simp [foldW]
  | x :: l, acc => by
    have h1 := foldW_len l (withP acc x).1
    have h2 := withP_len acc x
    simp only [foldW, List.length_cons]
    omega
def viewZ : GView := ⟨0, [], []⟩
noncomputable def tickV (v : GView) : GView × List Int × Int := Classical.choose (seal_ex (if viewB v = true then ((⟨v.id, leftP v.peers, foldW v.passive (lostP v.peers)⟩ : GView), namesP (leftP v.peers) ++ foldW v.passive (lostP v.peers), (0 : Int)) else (viewZ, [], 1100)))
theorem tickV_def (v : GView) : tickV v = if viewB v = true then ((⟨v.id, leftP v.peers, foldW v.passive (lostP v.peers)⟩ : GView), namesP (leftP v.peers) ++ foldW v.passive (lostP v.peers), (0 : Int)) else (viewZ, [], 1100) := Classical.choose_spec (seal_ex _)
theorem tickV_yes {v : GView} (h : viewB v = true) : tickV v = (⟨v.id, leftP v.peers, foldW v.passive (lostP v.peers)⟩, namesP (leftP v.peers) ++ foldW v.passive (lostP v.peers), 0) := by rw [tickV_def, if_pos h]
theorem tickV_no {v : GView} (h : viewB v = false) : tickV v = (viewZ, [], 1100) := by rw [tickV_def, if_neg (by rw [h]; simp)]
/-- A view that is new. -/
def vNew (v : GView) : List SV := [.int .i64 v.id, .row .new (.peers v.peers), .row .new (.ints v.passive)]
noncomputable def oTickV (v : GView) : Out := .ok (.tup [.agg [.int .i64 (tickV v).1.id, .own 0, .row .new (.ints (tickV v).1.passive)], .own 1, .int .i64 (tickV v).2.2]) [.peers (tickV v).1.peers, .ints (tickV v).2.1]
set_option maxHeartbeats 2000000 in
theorem k_ageTick : Known Try.prog tau 25 (S1 dView oTickV) := by
  refine known1 hmix tau_ok (ctx_cons k_passWith (ctx_cons k_viewMay (ctx_cons k_viewCopy (ctx_cons k_peersAge (ctx_cons k_Concat (ctx_cons k_Ids ctx_nil)))))) (fn := Try.f25) (by kernel_rfl) [(11, [(0, 0), (1, 0), (2, 0), (3, 4), (4, 10), (5, 18), (6, 33), (7, 127), (8, 255)])] (by kernel_rfl) _ _ fun v hfit => ⟨rfl,
    [(7, invF (Nat × List Int) [22] [10, 30, 31, 32, 33, 34, 35, 36, 37, 38, 39, 40, 41, 42] [5] (fun g => g.1 ≤ (lostP v.peers).length ∧ g.2.length ≤ v.passive.length + g.1 ∧ foldW v.passive (lostP v.peers) = foldW g.2 ((lostP v.peers).drop g.1)) (fun g => match g with
      | (i, acc) => fun st => withS [(30, .int .i64 i)] (withB [(5, (25, [.int .i64 v.id, .own 22, .row .new (.ints acc)]))] st)) (fun g => (lostP v.peers).length - g.1))], ?_⟩
  have hp : v.peers.length * 16 ≤ 140737488355328 := hfit.1.2.1
  clear hfit
  (repeat' (first | ((with_reducible refine body_intro ?_); (first | ((with_reducible refine seq_intro ?_ (fun Kv hN hX hR => ?_)); (next => exact rfl)) | ((with_reducible refine join_intro ?_ ?_); (next => exact rfl)) | (conv => whnf))) | with_reducible refine body_stop (fun Kv hN hX hR => ?_) | with_reducible refine Stop.mk ?_ | with_reducible refine Join.mk ⟨fun Kv hN hX hR => ?_, ?_⟩ | with_reducible apply DrawJ.join | with_reducible exact SubJ.self _ | ((with_reducible refine SubJ.of ?_); (repeat' (first | with_reducible rfl | ((conv => whnf) <;> (first | with_reducible exact True.intro | with_reducible refine And.intro ?_ ?_ | with_reducible rfl | ((conv => rhs; whnf) <;> with_reducible rfl))))); done) | with_reducible refine fill2_step (fun Kf hF => ?_) | with_reducible refine fill2_nil ?_ | with_reducible refine node2_step (fun Kg hG => ?_) | (with_reducible refine hF _ _ ?_; clear hF; clear Kf) | (with_reducible refine hG _ _ _ _ ?_; clear hG; clear Kg) | ((with_reducible refine seq_intro ?_ (fun Kv hN hX hR => ?_)); (next => exact rfl)) | ((with_reducible refine join_intro ?_ ?_); (next => exact rfl)) | (with_reducible refine hN _ ?_; (try (clear hG; clear Kg)); clear hN hX hR; clear Kv) | (with_reducible refine hX _ _ ?_; (try (clear hG; clear Kg)); clear hN hX hR; clear Kv) | (with_reducible refine hR _ ?_; (try (clear hG; clear Kg)); clear hN hX hR; clear Kv) | ((conv => whnf); first | with_reducible rfl | with_reducible exact True.intro | with_reducible refine (fun (_ : (_ : Prop)) => ?_) | with_reducible refine And.intro ?_ ?_ | (with_reducible refine hN _ ?_; (try (clear hG; clear Kg)); clear hN hX hR; clear Kv) | (with_reducible refine hX _ _ ?_; (try (clear hG; clear Kg)); clear hN hX hR; clear Kv) | (with_reducible refine hR _ ?_; (try (clear hG; clear Kg)); clear hN hX hR; clear Kv) | with_reducible refine body_stop (fun Kv hN hX hR => ?_) | with_reducible refine Stop.mk ?_ | with_reducible refine Join.mk ⟨fun Kv hN hX hR => ?_, ?_⟩ | with_reducible apply DrawJ.join | with_reducible exact SubJ.self _ | ((with_reducible refine SubJ.of ?_); (repeat' (first | with_reducible rfl | ((conv => whnf) <;> (first | with_reducible exact True.intro | with_reducible refine And.intro ?_ ?_ | with_reducible rfl | ((conv => rhs; whnf) <;> with_reducible rfl))))); done) | with_reducible refine fill2_step (fun Kf hF => ?_) | with_reducible refine fill2_nil ?_ | with_reducible refine node2_step (fun Kg hG => ?_) | (with_reducible refine hF _ _ ?_; clear hF; clear Kf) | (with_reducible refine hG _ _ _ _ ?_; clear hG; clear Kg)))); all_goals (conv => whnf); all_goals (repeat ((try (clear hG; clear Kg)); clear hN hX hR; clear Kv))
  all_goals first
    | (rw [tickV_no (nf (by with_reducible assumption))] <;> rfl)
    | (have hB : viewB v = true := nt (by with_reducible assumption)
       have hP := (viewB_iff.1 hB).1
       have ha := ageP_yes hP
       have hl := leftlost_len v.peers
       refine ⟨(0, v.passive), ⟨Nat.zero_le _, by simp, rfl⟩, ?_⟩
       (repeat' (first | ((with_reducible refine body_intro ?_); (first | ((with_reducible refine seq_intro ?_ (fun Kv hN hX hR => ?_)); (next => exact rfl)) | ((with_reducible refine join_intro ?_ ?_); (next => exact rfl)) | (conv => whnf))) | with_reducible refine body_stop (fun Kv hN hX hR => ?_) | with_reducible refine Stop.mk ?_ | with_reducible refine Join.mk ⟨fun Kv hN hX hR => ?_, ?_⟩ | with_reducible refine DrawJ.each ?_ | with_reducible exact SubJ.self _ | with_reducible refine SubJ.of ?_ | with_reducible refine fill2_step (fun Kf hF => ?_) | with_reducible refine fill2_nil ?_ | with_reducible refine node2_step (fun Kg hG => ?_) | (with_reducible refine hF _ _ ?_; clear hF; clear Kf) | (with_reducible refine hG _ _ _ _ ?_; clear hG; clear Kg) | ((with_reducible refine seq_intro ?_ (fun Kv hN hX hR => ?_)); (next => exact rfl)) | ((with_reducible refine join_intro ?_ ?_); (next => exact rfl)) | (with_reducible refine hN _ ?_; (try (clear hG; clear Kg)); clear hN hX hR; clear Kv) | (with_reducible refine hX _ _ ?_; (try (clear hG; clear Kg)); clear hN hX hR; clear Kv) | (with_reducible refine hR _ ?_; (try (clear hG; clear Kg)); clear hN hX hR; clear Kv) | ((conv => whnf); first | with_reducible rfl | with_reducible exact True.intro | with_reducible intro _ | with_reducible refine And.intro ?_ ?_ | (with_reducible refine hN _ ?_; (try (clear hG; clear Kg)); clear hN hX hR; clear Kv) | (with_reducible refine hX _ _ ?_; (try (clear hG; clear Kg)); clear hN hX hR; clear Kv) | (with_reducible refine hR _ ?_; (try (clear hG; clear Kg)); clear hN hX hR; clear Kv) | with_reducible refine body_stop (fun Kv hN hX hR => ?_) | with_reducible refine Stop.mk ?_ | with_reducible refine Join.mk ⟨fun Kv hN hX hR => ?_, ?_⟩ | with_reducible refine DrawJ.each ?_ | with_reducible exact SubJ.self _ | with_reducible refine SubJ.of ?_ | with_reducible refine fill2_step (fun Kf hF => ?_) | with_reducible refine fill2_nil ?_ | with_reducible refine node2_step (fun Kg hG => ?_) | (with_reducible refine hF _ _ ?_; clear hF; clear Kf) | (with_reducible refine hG _ _ _ _ ?_; clear hG; clear Kg)))); all_goals (conv => whnf); all_goals (repeat ((try (clear hG; clear Kg)); clear hN hX hR; clear Kv))
       all_goals first
         | rfl
         | exact congrArg (fun q : List GPeer × List Int × Int => Rw.peers q.1) ha
         | trace_state)
    | (rintro ⟨i, acc⟩ ⟨hi, hl, hf⟩
       dsimp only at hi hl hf
       have hB : viewB v = true := nt (by with_reducible assumption)
       have hP := (viewB_iff.1 hB).1
       have hP16 := (viewB_iff.1 hB).2.2.1
       have ha := ageP_yes hP
       have hl2 := leftlost_len v.peers
       have ht := tickV_yes hB
       (repeat' (first | ((with_reducible refine body_intro ?_); (first | ((with_reducible refine seq_intro ?_ (fun Kv hN hX hR => ?_)); (next => exact rfl)) | ((with_reducible refine join_intro ?_ ?_); (next => exact rfl)) | (conv => whnf))) | with_reducible refine body_stop (fun Kv hN hX hR => ?_) | with_reducible refine Stop.mk ?_ | with_reducible refine Join.mk ⟨fun Kv hN hX hR => ?_, ?_⟩ | with_reducible refine DrawJ.each ?_ | with_reducible exact SubJ.self _ | with_reducible refine SubJ.of ?_ | with_reducible refine fill2_step (fun Kf hF => ?_) | with_reducible refine fill2_nil ?_ | with_reducible refine node2_step (fun Kg hG => ?_) | (with_reducible refine hF _ _ ?_; clear hF; clear Kf) | (with_reducible refine hG _ _ _ _ ?_; clear hG; clear Kg) | ((with_reducible refine seq_intro ?_ (fun Kv hN hX hR => ?_)); (next => exact rfl)) | ((with_reducible refine join_intro ?_ ?_); (next => exact rfl)) | (with_reducible refine hN _ ?_; (try (clear hG; clear Kg)); clear hN hX hR; clear Kv) | (with_reducible refine hX _ _ ?_; (try (clear hG; clear Kg)); clear hN hX hR; clear Kv) | (with_reducible refine hR _ ?_; (try (clear hG; clear Kg)); clear hN hX hR; clear Kv) | ((conv => whnf); first | with_reducible rfl | with_reducible exact True.intro | with_reducible intro _ | with_reducible refine And.intro ?_ ?_ | (with_reducible refine hN _ ?_; (try (clear hG; clear Kg)); clear hN hX hR; clear Kv) | (with_reducible refine hX _ _ ?_; (try (clear hG; clear Kg)); clear hN hX hR; clear Kv) | (with_reducible refine hR _ ?_; (try (clear hG; clear Kg)); clear hN hX hR; clear Kv) | with_reducible refine body_stop (fun Kv hN hX hR => ?_) | with_reducible refine Stop.mk ?_ | with_reducible refine Join.mk ⟨fun Kv hN hX hR => ?_, ?_⟩ | with_reducible refine DrawJ.each ?_ | with_reducible exact SubJ.self _ | with_reducible refine SubJ.of ?_ | with_reducible refine fill2_step (fun Kf hF => ?_) | with_reducible refine fill2_nil ?_ | with_reducible refine node2_step (fun Kg hG => ?_) | (with_reducible refine hF _ _ ?_; clear hF; clear Kf) | (with_reducible refine hG _ _ _ _ ?_; clear hG; clear Kg)))); all_goals (conv => whnf); all_goals (repeat ((try (clear hG; clear Kg)); clear hN hX hR; clear Kv))
       all_goals (try dsimp only at *)
       all_goals (try simp only [ha, Int.toNat_natCast] at *)
       all_goals first
         | exact Ob.mk ⟨by omega, of_decide_eq_true (by with_reducible assumption)⟩
         | (have h := of_decide_eq_true (show decide ((i : Int) < ((lostP v.peers).length : Nat)) = true by with_reducible assumption)
            have hw := withP_len acc ((lostP v.peers).getD i 0)
            refine ⟨(i + 1, (withP acc ((lostP v.peers).getD i 0)).1), ⟨by show i + 1 ≤ (lostP v.peers).length; omega, by show (withP acc ((lostP v.peers).getD i 0)).1.length ≤ v.passive.length + (i + 1); omega, by rw [hf, foldW_next (by omega)]⟩, by show (lostP v.peers).length - (i + 1) < (lostP v.peers).length - i; omega, ?_⟩
            (repeat' (first | ((with_reducible refine body_intro ?_); (first | ((with_reducible refine seq_intro ?_ (fun Kv hN hX hR => ?_)); (next => exact rfl)) | ((with_reducible refine join_intro ?_ ?_); (next => exact rfl)) | (conv => whnf))) | with_reducible refine body_stop (fun Kv hN hX hR => ?_) | with_reducible refine Stop.mk ?_ | with_reducible refine Join.mk ⟨fun Kv hN hX hR => ?_, ?_⟩ | with_reducible refine DrawJ.each ?_ | with_reducible exact SubJ.self _ | with_reducible refine SubJ.of ?_ | with_reducible refine fill2_step (fun Kf hF => ?_) | with_reducible refine fill2_nil ?_ | with_reducible refine node2_step (fun Kg hG => ?_) | (with_reducible refine hF _ _ ?_; clear hF; clear Kf) | (with_reducible refine hG _ _ _ _ ?_; clear hG; clear Kg) | ((with_reducible refine seq_intro ?_ (fun Kv hN hX hR => ?_)); (next => exact rfl)) | ((with_reducible refine join_intro ?_ ?_); (next => exact rfl)) | (with_reducible refine hN _ ?_; (try (clear hG; clear Kg)); clear hN hX hR; clear Kv) | (with_reducible refine hX _ _ ?_; (try (clear hG; clear Kg)); clear hN hX hR; clear Kv) | (with_reducible refine hR _ ?_; (try (clear hG; clear Kg)); clear hN hX hR; clear Kv) | ((conv => whnf); first | with_reducible rfl | with_reducible exact True.intro | with_reducible intro _ | with_reducible refine And.intro ?_ ?_ | (with_reducible refine hN _ ?_; (try (clear hG; clear Kg)); clear hN hX hR; clear Kv) | (with_reducible refine hX _ _ ?_; (try (clear hG; clear Kg)); clear hN hX hR; clear Kv) | (with_reducible refine hR _ ?_; (try (clear hG; clear Kg)); clear hN hX hR; clear Kv) | with_reducible refine body_stop (fun Kv hN hX hR => ?_) | with_reducible refine Stop.mk ?_ | with_reducible refine Join.mk ⟨fun Kv hN hX hR => ?_, ?_⟩ | with_reducible refine DrawJ.each ?_ | with_reducible exact SubJ.self _ | with_reducible refine SubJ.of ?_ | with_reducible refine fill2_step (fun Kf hF => ?_) | with_reducible refine fill2_nil ?_ | with_reducible refine node2_step (fun Kg hG => ?_) | (with_reducible refine hF _ _ ?_; clear hF; clear Kf) | (with_reducible refine hG _ _ _ _ ?_; clear hG; clear Kg)))); all_goals (conv => whnf); all_goals (repeat ((try (clear hG; clear Kg)); clear hN hX hR; clear Kv))
            all_goals first
              | exact wrapI (by omega) (by omega)
              | rfl)
         | (have h := of_decide_eq_false (show decide ((i : Int) < ((lostP v.peers).length : Nat)) = false by with_reducible assumption)
            have e1 : foldW v.passive (lostP v.peers) = acc := by rw [hf, foldW_end (by omega)]
            first
              | (refine Ob.mk ?_
                 simp only [List.flatten_cons, List.flatten_nil, List.length_append, List.length_nil, namesP_len]
                 omega)
              | (rw [ht]; done)
              | (rw [ht, e1]; done)
              | (rw [ht, e1]
                 simp
                 done)
              | trace_state)
         | trace_state)
    | trace_state
end Go.Proofs.Ytaapoiikbolgnaa

/- Time that goes by, without a program: a view that may be stays one. -/
namespace Go.Proofs.Ytaapoiikbolgnaa
open Go.RowKit

theorem viewB_iff2 {v : GView} : viewB v = true ↔ peersB v.id v.peers = true ∧ passB v.passive = true ∧ v.peers.length + v.passive.length ≤ 16 ∧ ∀ x ∈ v.passive, x ≠ v.id ∧ x ∉ namesP v.peers := by
  rw [viewB_iff]
  constructor
  · rintro ⟨h1, h2, h3, h4⟩
    refine ⟨h1, h2, h3, fun x hx => ?_⟩
    have := List.any_eq_false.1 h4 x hx
    rw [odd_same h1 ((passB_iff.1 h2).2.2 x hx)] at this
    simp only [refOdd, Bool.or_eq_true, decide_eq_true_eq, not_or, hasI_iff] at this
    exact this
  · rintro ⟨h1, h2, h3, h4⟩
    refine ⟨h1, h2, h3, ?_⟩
    rw [List.any_eq_false]
    intro x hx
    rw [odd_same h1 ((passB_iff.1 h2).2.2 x hx)]
    simp only [refOdd, Bool.or_eq_true, decide_eq_true_eq, not_or, hasI_iff]
    exact h4 x hx
theorem mem_namesP {l : List GPeer} {x : Int} : x ∈ namesP l ↔ ∃ p ∈ l, p.id = x := by simp [namesP]
theorem peers_iff {b : Int} {l : List GPeer} : peersB b l = true ↔ placeB b = true ∧ l.length ≤ 16 ∧ (l.Pairwise fun p q => farI b p.id < farI b q.id) ∧ ∀ p ∈ l, peerB b p = true := by
  rw [peersB_iff, risingP_iff]
theorem names_nodup {b : Int} {l : List GPeer} (h : peersB b l = true) : (namesP l).Pairwise (· ≠ ·) := by
  have h2 := (peers_iff.1 h).2.2.1
  unfold namesP
  rw [List.pairwise_map]
  refine h2.imp fun {p q} hpq e => ?_
  rw [e] at hpq
  omega
theorem peerB_iff {b : Int} {p : GPeer} : peerB b p = true ↔ placeB p.id = true ∧ 0 ≤ p.missed ∧ p.missed < 3 ∧ 0 < farI b p.id := by
  simp [peerB]
theorem mem_leftP {l : List GPeer} {q : GPeer} : q ∈ leftP l ↔ ∃ p ∈ l, p.missed + 1 ≠ 3 ∧ q = ⟨p.id, p.missed + 1⟩ := by
  induction l with
  | nil => simp [leftP]
  | cons p l ih =>
    simp only [leftP]
    split
    · rename_i h
      rw [ih]
      constructor
      · rintro ⟨p', h1, h2⟩; exact ⟨p', List.mem_cons_of_mem _ h1, h2⟩
      · rintro ⟨p', h1, h2, h3⟩
        rcases List.mem_cons.1 h1 with rfl | h1
        · exact absurd h h2
        · exact ⟨p', h1, h2, h3⟩
    · rename_i h
      rw [List.mem_cons, ih]
      constructor
      · rintro (rfl | ⟨p', h1, h2⟩)
        · exact ⟨p, List.mem_cons_self, h, rfl⟩
        · exact ⟨p', List.mem_cons_of_mem _ h1, h2⟩
      · rintro ⟨p', h1, h2, h3⟩
        rcases List.mem_cons.1 h1 with rfl | h1
        · exact .inl h3
        · exact .inr ⟨p', h1, h2, h3⟩
theorem mem_lostP {l : List GPeer} {x : Int} : x ∈ lostP l ↔ ∃ p ∈ l, p.missed + 1 = 3 ∧ x = p.id := by
  induction l with
  | nil => simp [lostP]
  | cons p l ih =>
    simp only [lostP]
    split
    · rename_i h
      rw [List.mem_cons, ih]
      constructor
      · rintro (rfl | ⟨p', h1, h2⟩)
        · exact ⟨p, List.mem_cons_self, h, rfl⟩
        · exact ⟨p', List.mem_cons_of_mem _ h1, h2⟩
      · rintro ⟨p', h1, h2, h3⟩
        rcases List.mem_cons.1 h1 with rfl | h1
        · exact .inl h3
        · exact .inr ⟨p', h1, h2, h3⟩
    · rename_i h
      rw [ih]
      constructor
      · rintro ⟨p', h1, h2⟩; exact ⟨p', List.mem_cons_of_mem _ h1, h2⟩
      · rintro ⟨p', h1, h2, h3⟩
        rcases List.mem_cons.1 h1 with rfl | h1
        · exact absurd h2 h
        · exact ⟨p', h1, h2, h3⟩
theorem same_of_names {l : List GPeer} (h : (namesP l).Pairwise (· ≠ ·)) {p q : GPeer} (hp : p ∈ l) (hq : q ∈ l) (e : p.id = q.id) : p = q := by
  induction l with
  | nil => simp at hp
  | cons r l ih =>
    have h2 : (∀ x ∈ namesP l, r.id ≠ x) ∧ (namesP l).Pairwise (· ≠ ·) := List.pairwise_cons.1 h
    rcases List.mem_cons.1 hp with h3 | h3
    · rcases List.mem_cons.1 hq with h4 | h4
      · rw [h3, h4]
      · subst h3
        exact absurd e (h2.1 _ (mem_namesP.2 ⟨q, h4, rfl⟩))
    · rcases List.mem_cons.1 hq with h4 | h4
      · subst h4
        exact absurd e.symm (h2.1 _ (mem_namesP.2 ⟨p, h3, rfl⟩))
      · exact ih h2.2 h3 h4
theorem passB_insP' {l : List Int} {x : Int} (h : passB l = true) (hx : placeB x = true) (hn : hasI l x = false) (hl : l.length ≠ 16) : passB (insP l x) = true := by
  rw [passB_iff] at h ⊢
  refine ⟨by rw [insP_len]; omega, ?_, ?_⟩
  · rw [rising_iff]
    refine asc_insP (rising_iff.1 h.2.1) fun hm => ?_
    rw [hasI_iff.2 hm] at hn
    exact absurd hn (by simp)
  · intro y hy
    rcases mem_insP.1 hy with rfl | hy
    · exact hx
    · exact h.2.2 y hy
theorem lostP_nodup {l : List GPeer} (h : (namesP l).Pairwise (· ≠ ·)) : (lostP l).Pairwise (· ≠ ·) := by
  induction l with
  | nil => simp [lostP]
  | cons p l ih =>
    have h2 : (∀ x ∈ namesP l, p.id ≠ x) ∧ (namesP l).Pairwise (· ≠ ·) := List.pairwise_cons.1 h
    simp only [lostP]
    split
    · rw [List.pairwise_cons]
      refine ⟨fun x hx => ?_, ih h2.2⟩
      obtain ⟨q, hq, _, rfl⟩ := mem_lostP.1 hx
      exact h2.1 _ (mem_namesP.2 ⟨q, hq, rfl⟩)
    · exact ih h2.2
theorem leftP_rising {b : Int} {l : List GPeer} (h : l.Pairwise fun p q => farI b p.id < farI b q.id) : (leftP l).Pairwise fun p q => farI b p.id < farI b q.id := by
  induction l with
  | nil => simp [leftP]
  | cons p l ih =>
    rw [List.pairwise_cons] at h
    simp only [leftP]
    split
    · exact ih h.2
    · rw [List.pairwise_cons]
      refine ⟨fun q hq => ?_, ih h.2⟩
      obtain ⟨p', h1, _, rfl⟩ := mem_leftP.1 hq
      exact h.1 p' h1
theorem leftP_peers {b : Int} {l : List GPeer} (h : peersB b l = true) : peersB b (leftP l) = true := by
  rw [peers_iff] at h ⊢
  refine ⟨h.1, Nat.le_trans (leftP_len l) h.2.1, leftP_rising h.2.2.1, fun q hq => ?_⟩
  obtain ⟨p, h1, h2, rfl⟩ := mem_leftP.1 hq
  have := peerB_iff.1 (h.2.2.2 p h1)
  rw [peerB_iff]
  exact ⟨this.1, by show 0 ≤ p.missed + 1; omega, by show p.missed + 1 < 3; omega, this.2.2.2⟩
theorem foldW_ok : ∀ {l acc : List Int}, passB acc = true → (∀ x ∈ l, placeB x = true) → l.Pairwise (· ≠ ·) → (∀ x ∈ l, x ∉ acc) → acc.length + l.length ≤ 16 →
    passB (foldW acc l) = true ∧ (foldW acc l).length = acc.length + l.length ∧ ∀ y, y ∈ foldW acc l ↔ y ∈ acc ∨ y ∈ l
  | [], acc, h, _, _, _, _ => ⟨h, rfl, fun y => by simp [foldW]⟩
  | x :: l, acc, h, hp, hd, hn, hl => by
    rw [List.pairwise_cons] at hd
    simp only [List.length_cons] at hl
    have hx := hp x List.mem_cons_self
    have hh : hasI acc x = false := by
      cases e : hasI acc x with
      | false => rfl
      | true => exact absurd (hasI_iff.1 e) (hn x List.mem_cons_self)
    have hw := withP_yes h hx hh (by omega)
    obtain ⟨h1, h2, h3⟩ := foldW_ok (acc := insP acc x) (l := l) (passB_insP' h hx hh (by omega)) (fun y hy => hp y (List.mem_cons_of_mem _ hy)) hd.2 (fun y hy hm => by
      rcases mem_insP.1 hm with e | hm
      · exact hd.1 y hy e.symm
      · exact hn y (List.mem_cons_of_mem _ hy) hm) (by rw [insP_len]; omega)
    rw [insP_len] at h2
    simp only [foldW, hw]
    refine ⟨h1, by rw [h2]; simp; omega, fun y => ?_⟩
    rw [h3, mem_insP]
    simp only [List.mem_cons]
    constructor
    · rintro ((h | h) | h)
      · exact .inr (.inl h)
      · exact .inl h
      · exact .inr (.inr h)
    · rintro (h | h | h)
      · exact .inl (.inr h)
      · exact .inl (.inl h)
      · exact .inr h
/-- What a tick leaves. -/
theorem tick_ok {v : GView} (h : viewB v = true) : viewB (tickV v).1 = true ∧ (tickV v).1.id = v.id ∧ (tickV v).1.peers = leftP v.peers ∧ (tickV v).1.passive = foldW v.passive (lostP v.peers) ∧ (tickV v).2.1 = namesP (leftP v.peers) ++ (tickV v).1.passive ∧
    (tickV v).2.2 = 0 ∧ (tickV v).1.peers.length + (tickV v).1.passive.length = v.peers.length + v.passive.length ∧ ∀ y, y ∈ (tickV v).1.passive ↔ y ∈ v.passive ∨ y ∈ lostP v.peers := by
  have hv := viewB_iff2.1 h
  have ht := tickV_yes h
  have hp := peers_iff.1 hv.1
  obtain ⟨f1, f2, f3⟩ := foldW_ok (l := lostP v.peers) hv.2.1 (fun x hx => by
    obtain ⟨p, h1, _, rfl⟩ := mem_lostP.1 hx
    exact (peerB_iff.1 (hp.2.2.2 p h1)).1) (lostP_nodup (names_nodup hv.1)) (fun x hx hm => by
    obtain ⟨p, h1, _, rfl⟩ := mem_lostP.1 hx
    exact (hv.2.2.2 _ hm).2 (mem_namesP.2 ⟨p, h1, rfl⟩)) (by have := lostP_len v.peers; omega)
  have hl := leftlost_len v.peers
  rw [ht]
  refine ⟨viewB_iff2.2 ⟨leftP_peers hv.1, f1, ?_, ?_⟩, rfl, rfl, rfl, rfl, rfl, ?_, f3⟩
  · show (leftP v.peers).length + (foldW v.passive (lostP v.peers)).length ≤ 16
    rw [f2]
    omega
  · intro x hx
    show x ≠ v.id ∧ x ∉ namesP (leftP v.peers)
    rcases (f3 x).1 hx with h1 | h1
    · refine ⟨(hv.2.2.2 x h1).1, fun hm => ?_⟩
      obtain ⟨q, hq, rfl⟩ := mem_namesP.1 hm
      obtain ⟨p, h3, _, rfl⟩ := mem_leftP.1 hq
      exact (hv.2.2.2 _ h1).2 (mem_namesP.2 ⟨p, h3, rfl⟩)
    · obtain ⟨p, h2, h3, rfl⟩ := mem_lostP.1 h1
      have hpb := peerB_iff.1 (hp.2.2.2 p h2)
      refine ⟨fun e => ?_, fun hm => ?_⟩
      · have := (far_pos hp.1 hpb.1).1.1 hpb.2.2.2
        exact this e
      · obtain ⟨q, hq, hqe⟩ := mem_namesP.1 hm
        obtain ⟨p', h4, h5, rfl⟩ := mem_leftP.1 hq
        have : p' = p := by
          have hnd := names_nodup hv.1
          exact same_of_names hnd h4 h2 hqe
        subst this
        exact h5 h3
  · show (leftP v.peers).length + (foldW v.passive (lostP v.peers)).length = _
    rw [f2]
    omega
end Go.Proofs.Ytaapoiikbolgnaa

/- Contracts: time that goes by: the document's. -/
namespace Go.Proofs.Ytaapoiikbolgnaa
open Go.RowKit
set_option maxHeartbeats 2000000 in
theorem k_refAge : Known Try.prog tau 54 (S2 dInt dPeers oAge) := by
  refine known2 hmix tau_ok (ctx_cons k_refPeers ctx_nil) (fn := Try.f54) (by kernel_rfl) [(10, [(0, 0), (1, 0), (2, 0), (3, 6), (4, 8), (5, 16), (6, 0), (7, 0), (8, 192), (9, 256), (10, 512), (11, 1024), (12, 2080), (13, 4096), (14, 8193), (15, 32767)])] (by kernel_rfl) _ _ _ fun b l hfit => ⟨rfl,
    [(6, invA Nat [(7, 49, 3), (8, 34, 0)] (7 :: 8 :: 9 :: 14 :: 15 :: 16 :: 17 :: 18 :: 19 :: 20 :: 21 :: 22 :: 23 :: 24 :: 25 :: 26 :: 27 :: 28 :: 29 :: 30 :: 31 :: 32 :: 33 :: 34 :: 35 :: 36 :: 37 :: 38 :: 39 :: 40 :: 41 :: 42 :: 43 :: 44 :: 45 :: 46 :: 47 :: 48 :: 49 :: []) [] (fun i => i ≤ l.length) (fun i => fun st => withS [(9, .int .i64 i), (7, .own 49), (8, .own 34)] (withR [(49, .own (.peers (leftP (l.take i)))), (34, .own (.ints (lostP (l.take i))))] st)) (fun i => l.length - i))], ?_⟩
  have hlen : l.length * 16 ≤ 140737488355328 := hfit.2.1
  clear hfit
  (repeat' (first | ((with_reducible refine body_intro ?_); (first | ((with_reducible refine seq_intro ?_ (fun Kv hN hX hR => ?_)); (next => exact rfl)) | ((with_reducible refine join_intro ?_ ?_); (next => exact rfl)) | (conv => whnf))) | with_reducible refine body_stop (fun Kv hN hX hR => ?_) | with_reducible refine Stop.mk ?_ | with_reducible refine Join.mk ⟨fun Kv hN hX hR => ?_, ?_⟩ | with_reducible refine DrawJ.each ?_ | with_reducible exact SubJ.self _ | with_reducible refine SubJ.of ?_ | with_reducible refine fill2_step (fun Kf hF => ?_) | with_reducible refine fill2_nil ?_ | with_reducible refine node2_step (fun Kg hG => ?_) | (with_reducible refine hF _ _ ?_; clear hF; clear Kf) | (with_reducible refine hG _ _ _ _ ?_; clear hG; clear Kg) | ((with_reducible refine seq_intro ?_ (fun Kv hN hX hR => ?_)); (next => exact rfl)) | ((with_reducible refine join_intro ?_ ?_); (next => exact rfl)) | (with_reducible refine hN _ ?_; (try (clear hG; clear Kg)); clear hN hX hR; clear Kv) | (with_reducible refine hX _ _ ?_; (try (clear hG; clear Kg)); clear hN hX hR; clear Kv) | (with_reducible refine hR _ ?_; (try (clear hG; clear Kg)); clear hN hX hR; clear Kv) | ((conv => whnf); first | with_reducible rfl | with_reducible exact True.intro | with_reducible refine (fun (_ : (_ : Prop)) => ?_) | with_reducible refine And.intro ?_ ?_ | (with_reducible refine hN _ ?_; (try (clear hG; clear Kg)); clear hN hX hR; clear Kv) | (with_reducible refine hX _ _ ?_; (try (clear hG; clear Kg)); clear hN hX hR; clear Kv) | (with_reducible refine hR _ ?_; (try (clear hG; clear Kg)); clear hN hX hR; clear Kv) | with_reducible refine body_stop (fun Kv hN hX hR => ?_) | with_reducible refine Stop.mk ?_ | with_reducible refine Join.mk ⟨fun Kv hN hX hR => ?_, ?_⟩ | with_reducible refine DrawJ.each ?_ | with_reducible exact SubJ.self _ | with_reducible refine SubJ.of ?_ | with_reducible refine fill2_step (fun Kf hF => ?_) | with_reducible refine fill2_nil ?_ | with_reducible refine node2_step (fun Kg hG => ?_) | (with_reducible refine hF _ _ ?_; clear hF; clear Kf) | (with_reducible refine hG _ _ _ _ ?_; clear hG; clear Kg)))); all_goals (conv => whnf); all_goals (repeat ((try (clear hG; clear Kg)); clear hN hX hR; clear Kv))
  all_goals first
    | (rw [ageP_no (nf (by with_reducible assumption))] <;> rfl)
    | (refine ⟨0, Nat.zero_le _, ?_⟩
       (repeat' (first | ((with_reducible refine body_intro ?_); (first | ((with_reducible refine seq_intro ?_ (fun Kv hN hX hR => ?_)); (next => exact rfl)) | ((with_reducible refine join_intro ?_ ?_); (next => exact rfl)) | (conv => whnf))) | with_reducible refine body_stop (fun Kv hN hX hR => ?_) | with_reducible refine Stop.mk ?_ | with_reducible refine Join.mk ⟨fun Kv hN hX hR => ?_, ?_⟩ | with_reducible refine DrawJ.each ?_ | with_reducible exact SubJ.self _ | with_reducible refine SubJ.of ?_ | with_reducible refine fill2_step (fun Kf hF => ?_) | with_reducible refine fill2_nil ?_ | with_reducible refine node2_step (fun Kg hG => ?_) | (with_reducible refine hF _ _ ?_; clear hF; clear Kf) | (with_reducible refine hG _ _ _ _ ?_; clear hG; clear Kg) | ((with_reducible refine seq_intro ?_ (fun Kv hN hX hR => ?_)); (next => exact rfl)) | ((with_reducible refine join_intro ?_ ?_); (next => exact rfl)) | (with_reducible refine hN _ ?_; (try (clear hG; clear Kg)); clear hN hX hR; clear Kv) | (with_reducible refine hX _ _ ?_; (try (clear hG; clear Kg)); clear hN hX hR; clear Kv) | (with_reducible refine hR _ ?_; (try (clear hG; clear Kg)); clear hN hX hR; clear Kv) | ((conv => whnf); first | with_reducible rfl | with_reducible exact True.intro | with_reducible intro _ | with_reducible refine And.intro ?_ ?_ | (with_reducible refine hN _ ?_; (try (clear hG; clear Kg)); clear hN hX hR; clear Kv) | (with_reducible refine hX _ _ ?_; (try (clear hG; clear Kg)); clear hN hX hR; clear Kv) | (with_reducible refine hR _ ?_; (try (clear hG; clear Kg)); clear hN hX hR; clear Kv) | with_reducible refine body_stop (fun Kv hN hX hR => ?_) | with_reducible refine Stop.mk ?_ | with_reducible refine Join.mk ⟨fun Kv hN hX hR => ?_, ?_⟩ | with_reducible refine DrawJ.each ?_ | with_reducible exact SubJ.self _ | with_reducible refine SubJ.of ?_ | with_reducible refine fill2_step (fun Kf hF => ?_) | with_reducible refine fill2_nil ?_ | with_reducible refine node2_step (fun Kg hG => ?_) | (with_reducible refine hF _ _ ?_; clear hF; clear Kf) | (with_reducible refine hG _ _ _ _ ?_; clear hG; clear Kg)))); all_goals (conv => whnf); all_goals (repeat ((try (clear hG; clear Kg)); clear hN hX hR; clear Kv))
       all_goals rfl)
    | (with_reducible intro i hi
       have hi : i ≤ l.length := hi
       have hB : peersB b l = true := nt (by with_reducible assumption)
       (repeat' (first | ((with_reducible refine body_intro ?_); (first | ((with_reducible refine seq_intro ?_ (fun Kv hN hX hR => ?_)); (next => exact rfl)) | ((with_reducible refine join_intro ?_ ?_); (next => exact rfl)) | (conv => whnf))) | with_reducible refine body_stop (fun Kv hN hX hR => ?_) | with_reducible refine Stop.mk ?_ | with_reducible refine Join.mk ⟨fun Kv hN hX hR => ?_, ?_⟩ | with_reducible apply DrawJ.join | with_reducible exact SubJ.self _ | ((with_reducible refine SubJ.of ?_); (repeat' (first | with_reducible rfl | ((conv => whnf) <;> (first | with_reducible exact True.intro | with_reducible refine And.intro ?_ ?_ | with_reducible rfl | ((conv => rhs; whnf) <;> with_reducible rfl))))); done) | with_reducible refine fill2_step (fun Kf hF => ?_) | with_reducible refine fill2_nil ?_ | with_reducible refine node2_step (fun Kg hG => ?_) | (with_reducible refine hF _ _ ?_; clear hF; clear Kf) | (with_reducible refine hG _ _ _ _ ?_; clear hG; clear Kg) | ((with_reducible refine seq_intro ?_ (fun Kv hN hX hR => ?_)); (next => exact rfl)) | ((with_reducible refine join_intro ?_ ?_); (next => exact rfl)) | (with_reducible refine hN _ ?_; (try (clear hG; clear Kg)); clear hN hX hR; clear Kv) | (with_reducible refine hX _ _ ?_; (try (clear hG; clear Kg)); clear hN hX hR; clear Kv) | (with_reducible refine hR _ ?_; (try (clear hG; clear Kg)); clear hN hX hR; clear Kv) | ((conv => whnf); first | with_reducible rfl | with_reducible exact True.intro | with_reducible intro _ | with_reducible refine And.intro ?_ ?_ | (with_reducible refine hN _ ?_; (try (clear hG; clear Kg)); clear hN hX hR; clear Kv) | (with_reducible refine hX _ _ ?_; (try (clear hG; clear Kg)); clear hN hX hR; clear Kv) | (with_reducible refine hR _ ?_; (try (clear hG; clear Kg)); clear hN hX hR; clear Kv) | with_reducible refine body_stop (fun Kv hN hX hR => ?_) | with_reducible refine Stop.mk ?_ | with_reducible refine Join.mk ⟨fun Kv hN hX hR => ?_, ?_⟩ | with_reducible apply DrawJ.join | with_reducible exact SubJ.self _ | ((with_reducible refine SubJ.of ?_); (repeat' (first | with_reducible rfl | ((conv => whnf) <;> (first | with_reducible exact True.intro | with_reducible refine And.intro ?_ ?_ | with_reducible rfl | ((conv => rhs; whnf) <;> with_reducible rfl))))); done) | with_reducible refine fill2_step (fun Kf hF => ?_) | with_reducible refine fill2_nil ?_ | with_reducible refine node2_step (fun Kg hG => ?_) | (with_reducible refine hF _ _ ?_; clear hF; clear Kf) | (with_reducible refine hG _ _ _ _ ?_; clear hG; clear Kg)))); all_goals (conv => whnf); all_goals (repeat ((try (clear hG; clear Kg)); clear hN hX hR; clear Kv))
       all_goals (try simp only [Int.toNat_natCast] at *)
       all_goals first
         | exact Ob.mk ⟨by omega, of_decide_eq_true (by with_reducible assumption)⟩
         | (refine Ob.mk ?_
            have g1 := leftP_len (l.take i)
            have g2 := lostP_len (l.take i)
            simp only [Rw.len, Rw.bts, Rw.kd, kdBytes, List.length_cons, List.length_nil, List.length_append, List.length_take] at *
            omega)
         | (have h := of_decide_eq_true (show decide ((i : Int) < (l.length : Nat)) = true by with_reducible assumption)
            have hm := missed_in hB (i := i) (by omega)
            have w1 : IntKind.i64.wrap ((l.getD i default).missed + 1) = (l.getD i default).missed + 1 := wrapI (by omega) (by omega)
            have e1 := leftP_succ (l := l) (i := i) (by omega)
            have e2 := lostP_succ (l := l) (i := i) (by omega)
            first
              | (have h3 := of_decide_eq_true (show decide (IntKind.i64.wrap ((l.getD i default).missed + 1) = 3) = true by with_reducible assumption)
                 rw [w1] at h3
                 rw [if_pos h3] at e1 e2
                 rw [List.append_nil] at e1
                 refine ⟨i + 1, by omega, by omega, ?_⟩
                 (repeat' (first | ((with_reducible refine body_intro ?_); (first | ((with_reducible refine seq_intro ?_ (fun Kv hN hX hR => ?_)); (next => exact rfl)) | ((with_reducible refine join_intro ?_ ?_); (next => exact rfl)) | (conv => whnf))) | with_reducible refine body_stop (fun Kv hN hX hR => ?_) | with_reducible refine Stop.mk ?_ | with_reducible refine Join.mk ⟨fun Kv hN hX hR => ?_, ?_⟩ | with_reducible refine DrawJ.each ?_ | with_reducible exact SubJ.self _ | with_reducible refine SubJ.of ?_ | with_reducible refine fill2_step (fun Kf hF => ?_) | with_reducible refine fill2_nil ?_ | with_reducible refine node2_step (fun Kg hG => ?_) | (with_reducible refine hF _ _ ?_; clear hF; clear Kf) | (with_reducible refine hG _ _ _ _ ?_; clear hG; clear Kg) | ((with_reducible refine seq_intro ?_ (fun Kv hN hX hR => ?_)); (next => exact rfl)) | ((with_reducible refine join_intro ?_ ?_); (next => exact rfl)) | (with_reducible refine hN _ ?_; (try (clear hG; clear Kg)); clear hN hX hR; clear Kv) | (with_reducible refine hX _ _ ?_; (try (clear hG; clear Kg)); clear hN hX hR; clear Kv) | (with_reducible refine hR _ ?_; (try (clear hG; clear Kg)); clear hN hX hR; clear Kv) | ((conv => whnf); first | with_reducible rfl | with_reducible exact True.intro | with_reducible intro _ | with_reducible refine And.intro ?_ ?_ | (with_reducible refine hN _ ?_; (try (clear hG; clear Kg)); clear hN hX hR; clear Kv) | (with_reducible refine hX _ _ ?_; (try (clear hG; clear Kg)); clear hN hX hR; clear Kv) | (with_reducible refine hR _ ?_; (try (clear hG; clear Kg)); clear hN hX hR; clear Kv) | with_reducible refine body_stop (fun Kv hN hX hR => ?_) | with_reducible refine Stop.mk ?_ | with_reducible refine Join.mk ⟨fun Kv hN hX hR => ?_, ?_⟩ | with_reducible refine DrawJ.each ?_ | with_reducible exact SubJ.self _ | with_reducible refine SubJ.of ?_ | with_reducible refine fill2_step (fun Kf hF => ?_) | with_reducible refine fill2_nil ?_ | with_reducible refine node2_step (fun Kg hG => ?_) | (with_reducible refine hF _ _ ?_; clear hF; clear Kf) | (with_reducible refine hG _ _ _ _ ?_; clear hG; clear Kg)))); all_goals (conv => whnf); all_goals (repeat ((try (clear hG; clear Kg)); clear hN hX hR; clear Kv))
                 all_goals first
                   | exact wrapI (by omega) (by omega)
                   | exact congrArg Rw.peers e1.symm
                   | exact congrArg Rw.ints e2.symm
                   | rfl)
              | (have h3 := of_decide_eq_false (show decide (IntKind.i64.wrap ((l.getD i default).missed + 1) = 3) = false by with_reducible assumption)
                 rw [w1] at h3
                 rw [if_neg h3] at e1 e2
                 rw [List.append_nil] at e2
                 rw [← w1] at e1
                 refine ⟨i + 1, by omega, by omega, ?_⟩
                 (repeat' (first | ((with_reducible refine body_intro ?_); (first | ((with_reducible refine seq_intro ?_ (fun Kv hN hX hR => ?_)); (next => exact rfl)) | ((with_reducible refine join_intro ?_ ?_); (next => exact rfl)) | (conv => whnf))) | with_reducible refine body_stop (fun Kv hN hX hR => ?_) | with_reducible refine Stop.mk ?_ | with_reducible refine Join.mk ⟨fun Kv hN hX hR => ?_, ?_⟩ | with_reducible refine DrawJ.each ?_ | with_reducible exact SubJ.self _ | with_reducible refine SubJ.of ?_ | with_reducible refine fill2_step (fun Kf hF => ?_) | with_reducible refine fill2_nil ?_ | with_reducible refine node2_step (fun Kg hG => ?_) | (with_reducible refine hF _ _ ?_; clear hF; clear Kf) | (with_reducible refine hG _ _ _ _ ?_; clear hG; clear Kg) | ((with_reducible refine seq_intro ?_ (fun Kv hN hX hR => ?_)); (next => exact rfl)) | ((with_reducible refine join_intro ?_ ?_); (next => exact rfl)) | (with_reducible refine hN _ ?_; (try (clear hG; clear Kg)); clear hN hX hR; clear Kv) | (with_reducible refine hX _ _ ?_; (try (clear hG; clear Kg)); clear hN hX hR; clear Kv) | (with_reducible refine hR _ ?_; (try (clear hG; clear Kg)); clear hN hX hR; clear Kv) | ((conv => whnf); first | with_reducible rfl | with_reducible exact True.intro | with_reducible intro _ | with_reducible refine And.intro ?_ ?_ | (with_reducible refine hN _ ?_; (try (clear hG; clear Kg)); clear hN hX hR; clear Kv) | (with_reducible refine hX _ _ ?_; (try (clear hG; clear Kg)); clear hN hX hR; clear Kv) | (with_reducible refine hR _ ?_; (try (clear hG; clear Kg)); clear hN hX hR; clear Kv) | with_reducible refine body_stop (fun Kv hN hX hR => ?_) | with_reducible refine Stop.mk ?_ | with_reducible refine Join.mk ⟨fun Kv hN hX hR => ?_, ?_⟩ | with_reducible refine DrawJ.each ?_ | with_reducible exact SubJ.self _ | with_reducible refine SubJ.of ?_ | with_reducible refine fill2_step (fun Kf hF => ?_) | with_reducible refine fill2_nil ?_ | with_reducible refine node2_step (fun Kg hG => ?_) | (with_reducible refine hF _ _ ?_; clear hF; clear Kf) | (with_reducible refine hG _ _ _ _ ?_; clear hG; clear Kg)))); all_goals (conv => whnf); all_goals (repeat ((try (clear hG; clear Kg)); clear hN hX hR; clear Kv))
                 all_goals first
                   | exact wrapI (by omega) (by omega)
                   | exact congrArg Rw.peers e1.symm
                   | exact congrArg Rw.ints e2.symm
                   | rfl))
         | (have h := of_decide_eq_false (show decide ((i : Int) < (l.length : Nat)) = false by with_reducible assumption)
            first
              | (rw [ageP_yes hB]; done)
              | (rw [ageP_yes hB, List.take_of_length_le (by omega)]; done))
         | trace_state)
    | trace_state
set_option maxHeartbeats 2000000 in
theorem k_refAgeView : Known Try.prog tau 26 (S1 dView oTickV) := by
  refine known1 hmix tau_ok (ctx_cons k_refView (ctx_cons k_refWith (ctx_cons k_refAge (ctx_cons k_refNames ctx_nil)))) (fn := Try.f26) (by kernel_rfl) [] (by kernel_rfl) _ _ fun v hfit => ⟨rfl,
    [(6, invF (Nat × List Int) [22] (26 :: 29 :: [8, 9, 10, 11, 30, 31, 32, 33, 34, 35, 36, 37, 38, 39, 40, 41, 42, 43, 44, 45]) [] (fun g => g.1 ≤ (lostP v.peers).length ∧ g.2.length ≤ v.passive.length + g.1 ∧ foldW v.passive (lostP v.peers) = foldW g.2 ((lostP v.peers).drop g.1)) (fun g => match g with
      | (i, acc) => fun st => withS [(9, .int .i64 i), (8, .row .new (.ints acc))] st) (fun g => (lostP v.peers).length - g.1))], ?_⟩
  have hp : v.peers.length * 16 ≤ 140737488355328 := hfit.1.2.1
  have hp2 : v.passive.length * 8 ≤ 140737488355328 := hfit.1.2.2.1
  clear hfit
  (repeat' (first | ((with_reducible refine body_intro ?_); (first | ((with_reducible refine seq_intro ?_ (fun Kv hN hX hR => ?_)); (next => exact rfl)) | ((with_reducible refine join_intro ?_ ?_); (next => exact rfl)) | (conv => whnf))) | with_reducible refine body_stop (fun Kv hN hX hR => ?_) | with_reducible refine Stop.mk ?_ | with_reducible refine Join.mk ⟨fun Kv hN hX hR => ?_, ?_⟩ | with_reducible refine DrawJ.each ?_ | with_reducible exact SubJ.self _ | with_reducible refine SubJ.of ?_ | with_reducible refine fill2_step (fun Kf hF => ?_) | with_reducible refine fill2_nil ?_ | with_reducible refine node2_step (fun Kg hG => ?_) | (with_reducible refine hF _ _ ?_; clear hF; clear Kf) | (with_reducible refine hG _ _ _ _ ?_; clear hG; clear Kg) | ((with_reducible refine seq_intro ?_ (fun Kv hN hX hR => ?_)); (next => exact rfl)) | ((with_reducible refine join_intro ?_ ?_); (next => exact rfl)) | (with_reducible refine hN _ ?_; (try (clear hG; clear Kg)); clear hN hX hR; clear Kv) | (with_reducible refine hX _ _ ?_; (try (clear hG; clear Kg)); clear hN hX hR; clear Kv) | (with_reducible refine hR _ ?_; (try (clear hG; clear Kg)); clear hN hX hR; clear Kv) | ((conv => whnf); first | with_reducible rfl | with_reducible exact True.intro | with_reducible refine (fun (_ : (_ : Prop)) => ?_) | with_reducible refine And.intro ?_ ?_ | (with_reducible refine hN _ ?_; (try (clear hG; clear Kg)); clear hN hX hR; clear Kv) | (with_reducible refine hX _ _ ?_; (try (clear hG; clear Kg)); clear hN hX hR; clear Kv) | (with_reducible refine hR _ ?_; (try (clear hG; clear Kg)); clear hN hX hR; clear Kv) | with_reducible refine body_stop (fun Kv hN hX hR => ?_) | with_reducible refine Stop.mk ?_ | with_reducible refine Join.mk ⟨fun Kv hN hX hR => ?_, ?_⟩ | with_reducible refine DrawJ.each ?_ | with_reducible exact SubJ.self _ | with_reducible refine SubJ.of ?_ | with_reducible refine fill2_step (fun Kf hF => ?_) | with_reducible refine fill2_nil ?_ | with_reducible refine node2_step (fun Kg hG => ?_) | (with_reducible refine hF _ _ ?_; clear hF; clear Kf) | (with_reducible refine hG _ _ _ _ ?_; clear hG; clear Kg)))); all_goals (conv => whnf); all_goals (repeat ((try (clear hG; clear Kg)); clear hN hX hR; clear Kv))
  all_goals first
    | (rw [tickV_no (nf (by with_reducible assumption))] <;> rfl)
    | (refine Ob.mk ?_
       simp only [Rw.len, Rw.bts, Rw.kd, kdBytes, List.length_nil]
       omega)
    | (have hB : viewB v = true := nt (by with_reducible assumption)
       have hP := (viewB_iff.1 hB).1
       have ha := ageP_yes hP
       refine ⟨(0, v.passive), ⟨Nat.zero_le _, by simp, rfl⟩, ?_⟩
       (repeat' (first | ((with_reducible refine body_intro ?_); (first | ((with_reducible refine seq_intro ?_ (fun Kv hN hX hR => ?_)); (next => exact rfl)) | ((with_reducible refine join_intro ?_ ?_); (next => exact rfl)) | (conv => whnf))) | with_reducible refine body_stop (fun Kv hN hX hR => ?_) | with_reducible refine Stop.mk ?_ | with_reducible refine Join.mk ⟨fun Kv hN hX hR => ?_, ?_⟩ | with_reducible refine DrawJ.each ?_ | with_reducible exact SubJ.self _ | with_reducible refine SubJ.of ?_ | with_reducible refine fill2_step (fun Kf hF => ?_) | with_reducible refine fill2_nil ?_ | with_reducible refine node2_step (fun Kg hG => ?_) | (with_reducible refine hF _ _ ?_; clear hF; clear Kf) | (with_reducible refine hG _ _ _ _ ?_; clear hG; clear Kg) | ((with_reducible refine seq_intro ?_ (fun Kv hN hX hR => ?_)); (next => exact rfl)) | ((with_reducible refine join_intro ?_ ?_); (next => exact rfl)) | (with_reducible refine hN _ ?_; (try (clear hG; clear Kg)); clear hN hX hR; clear Kv) | (with_reducible refine hX _ _ ?_; (try (clear hG; clear Kg)); clear hN hX hR; clear Kv) | (with_reducible refine hR _ ?_; (try (clear hG; clear Kg)); clear hN hX hR; clear Kv) | ((conv => whnf); first | with_reducible rfl | with_reducible exact True.intro | with_reducible intro _ | with_reducible refine And.intro ?_ ?_ | (with_reducible refine hN _ ?_; (try (clear hG; clear Kg)); clear hN hX hR; clear Kv) | (with_reducible refine hX _ _ ?_; (try (clear hG; clear Kg)); clear hN hX hR; clear Kv) | (with_reducible refine hR _ ?_; (try (clear hG; clear Kg)); clear hN hX hR; clear Kv) | with_reducible refine body_stop (fun Kv hN hX hR => ?_) | with_reducible refine Stop.mk ?_ | with_reducible refine Join.mk ⟨fun Kv hN hX hR => ?_, ?_⟩ | with_reducible refine DrawJ.each ?_ | with_reducible exact SubJ.self _ | with_reducible refine SubJ.of ?_ | with_reducible refine fill2_step (fun Kf hF => ?_) | with_reducible refine fill2_nil ?_ | with_reducible refine node2_step (fun Kg hG => ?_) | (with_reducible refine hF _ _ ?_; clear hF; clear Kf) | (with_reducible refine hG _ _ _ _ ?_; clear hG; clear Kg)))); all_goals (conv => whnf); all_goals (repeat ((try (clear hG; clear Kg)); clear hN hX hR; clear Kv))
       all_goals rfl)
    | (rintro ⟨i, acc⟩ ⟨hi, hl, hf⟩
       dsimp only at hi hl hf
       have hB : viewB v = true := nt (by with_reducible assumption)
       have hP := (viewB_iff.1 hB).1
       have hP16 := (viewB_iff.1 hB).2.2.1
       have ha := ageP_yes hP
       have hl2 := leftlost_len v.peers
       have ht := tickV_yes hB
       (repeat' (first | ((with_reducible refine body_intro ?_); (first | ((with_reducible refine seq_intro ?_ (fun Kv hN hX hR => ?_)); (next => exact rfl)) | ((with_reducible refine join_intro ?_ ?_); (next => exact rfl)) | (conv => whnf))) | with_reducible refine body_stop (fun Kv hN hX hR => ?_) | with_reducible refine Stop.mk ?_ | with_reducible refine Join.mk ⟨fun Kv hN hX hR => ?_, ?_⟩ | with_reducible refine DrawJ.each ?_ | with_reducible exact SubJ.self _ | with_reducible refine SubJ.of ?_ | with_reducible refine fill2_step (fun Kf hF => ?_) | with_reducible refine fill2_nil ?_ | with_reducible refine node2_step (fun Kg hG => ?_) | (with_reducible refine hF _ _ ?_; clear hF; clear Kf) | (with_reducible refine hG _ _ _ _ ?_; clear hG; clear Kg) | ((with_reducible refine seq_intro ?_ (fun Kv hN hX hR => ?_)); (next => exact rfl)) | ((with_reducible refine join_intro ?_ ?_); (next => exact rfl)) | (with_reducible refine hN _ ?_; (try (clear hG; clear Kg)); clear hN hX hR; clear Kv) | (with_reducible refine hX _ _ ?_; (try (clear hG; clear Kg)); clear hN hX hR; clear Kv) | (with_reducible refine hR _ ?_; (try (clear hG; clear Kg)); clear hN hX hR; clear Kv) | ((conv => whnf); first | with_reducible rfl | with_reducible exact True.intro | with_reducible intro _ | with_reducible refine And.intro ?_ ?_ | (with_reducible refine hN _ ?_; (try (clear hG; clear Kg)); clear hN hX hR; clear Kv) | (with_reducible refine hX _ _ ?_; (try (clear hG; clear Kg)); clear hN hX hR; clear Kv) | (with_reducible refine hR _ ?_; (try (clear hG; clear Kg)); clear hN hX hR; clear Kv) | with_reducible refine body_stop (fun Kv hN hX hR => ?_) | with_reducible refine Stop.mk ?_ | with_reducible refine Join.mk ⟨fun Kv hN hX hR => ?_, ?_⟩ | with_reducible refine DrawJ.each ?_ | with_reducible exact SubJ.self _ | with_reducible refine SubJ.of ?_ | with_reducible refine fill2_step (fun Kf hF => ?_) | with_reducible refine fill2_nil ?_ | with_reducible refine node2_step (fun Kg hG => ?_) | (with_reducible refine hF _ _ ?_; clear hF; clear Kf) | (with_reducible refine hG _ _ _ _ ?_; clear hG; clear Kg)))); all_goals (conv => whnf); all_goals (repeat ((try (clear hG; clear Kg)); clear hN hX hR; clear Kv))
       all_goals (try dsimp only at *)
       all_goals (try simp only [ha, Int.toNat_natCast] at *)
       all_goals first
         | exact Ob.mk ⟨by omega, of_decide_eq_true (by with_reducible assumption)⟩
         | (have h := of_decide_eq_true (show decide ((i : Int) < ((lostP v.peers).length : Nat)) = true by with_reducible assumption)
            have hw := withP_len acc ((lostP v.peers).getD i 0)
            refine ⟨(i + 1, (withP acc ((lostP v.peers).getD i 0)).1), ⟨by show i + 1 ≤ (lostP v.peers).length; omega, by show (withP acc ((lostP v.peers).getD i 0)).1.length ≤ v.passive.length + (i + 1); omega, by rw [hf, foldW_next (by omega)]⟩, by show (lostP v.peers).length - (i + 1) < (lostP v.peers).length - i; omega, ?_⟩
            (repeat' (first | ((with_reducible refine body_intro ?_); (first | ((with_reducible refine seq_intro ?_ (fun Kv hN hX hR => ?_)); (next => exact rfl)) | ((with_reducible refine join_intro ?_ ?_); (next => exact rfl)) | (conv => whnf))) | with_reducible refine body_stop (fun Kv hN hX hR => ?_) | with_reducible refine Stop.mk ?_ | with_reducible refine Join.mk ⟨fun Kv hN hX hR => ?_, ?_⟩ | with_reducible refine DrawJ.each ?_ | with_reducible exact SubJ.self _ | with_reducible refine SubJ.of ?_ | with_reducible refine fill2_step (fun Kf hF => ?_) | with_reducible refine fill2_nil ?_ | with_reducible refine node2_step (fun Kg hG => ?_) | (with_reducible refine hF _ _ ?_; clear hF; clear Kf) | (with_reducible refine hG _ _ _ _ ?_; clear hG; clear Kg) | ((with_reducible refine seq_intro ?_ (fun Kv hN hX hR => ?_)); (next => exact rfl)) | ((with_reducible refine join_intro ?_ ?_); (next => exact rfl)) | (with_reducible refine hN _ ?_; (try (clear hG; clear Kg)); clear hN hX hR; clear Kv) | (with_reducible refine hX _ _ ?_; (try (clear hG; clear Kg)); clear hN hX hR; clear Kv) | (with_reducible refine hR _ ?_; (try (clear hG; clear Kg)); clear hN hX hR; clear Kv) | ((conv => whnf); first | with_reducible rfl | with_reducible exact True.intro | with_reducible intro _ | with_reducible refine And.intro ?_ ?_ | (with_reducible refine hN _ ?_; (try (clear hG; clear Kg)); clear hN hX hR; clear Kv) | (with_reducible refine hX _ _ ?_; (try (clear hG; clear Kg)); clear hN hX hR; clear Kv) | (with_reducible refine hR _ ?_; (try (clear hG; clear Kg)); clear hN hX hR; clear Kv) | with_reducible refine body_stop (fun Kv hN hX hR => ?_) | with_reducible refine Stop.mk ?_ | with_reducible refine Join.mk ⟨fun Kv hN hX hR => ?_, ?_⟩ | with_reducible refine DrawJ.each ?_ | with_reducible exact SubJ.self _ | with_reducible refine SubJ.of ?_ | with_reducible refine fill2_step (fun Kf hF => ?_) | with_reducible refine fill2_nil ?_ | with_reducible refine node2_step (fun Kg hG => ?_) | (with_reducible refine hF _ _ ?_; clear hF; clear Kf) | (with_reducible refine hG _ _ _ _ ?_; clear hG; clear Kg)))); all_goals (conv => whnf); all_goals (repeat ((try (clear hG; clear Kg)); clear hN hX hR; clear Kv))
            all_goals first
              | exact wrapI (by omega) (by omega)
              | rfl)
         | (have h := of_decide_eq_false (show decide ((i : Int) < ((lostP v.peers).length : Nat)) = false by with_reducible assumption)
            have e1 : foldW v.passive (lostP v.peers) = acc := by rw [hf, foldW_end (by omega)]
            first
              | (refine Ob.mk ?_
                 simp only [Rw.len, Rw.bts, Rw.kd, kdBytes, namesP_len]
                 omega)
              | (rw [ht]; done)
              | (rw [ht, e1]; done)
              | trace_state)
         | trace_state)
    | trace_state
end Go.Proofs.Ytaapoiikbolgnaa

/- Contracts: the laws' comparisons: Peers. -/
namespace Go.Proofs.Ytaapoiikbolgnaa
open Go.RowKit

theorem k_SamePeers : Known Try.prog tau 56 (S2 dPeers dPeers fun a b => okB (decide (a = b))) := by
  refine known2 hmix tau_ok ctx_nil (fn := Try.f56) (by kernel_rfl) [(6, [(0, 0), (1, 0), (2, 3), (3, 4), (4, 0), (5, 0), (6, 48), (7, 64), (8, 136)])] (by kernel_rfl) _ _ _ fun xs ys hfit => ⟨rfl,
    [(4, invN [4, 5, 11, 12, 13, 14, 15, 16, 17, 18, 19, 20, 21, 22, 23, 24, 25] (fun i => i ≤ xs.length ∧ ∀ j, j < i → xs.getD j default = ys.getD j default) (fun i => withS [(5, .int .i64 i)]) (fun i => xs.length - i))], ?_⟩
  have hlen : xs.length * 16 ≤ 140737488355328 := hfit.1
  clear hfit
  (repeat' (first | ((with_reducible refine body_intro ?_); (first | ((with_reducible refine seq_intro ?_ (fun Kv hN hX hR => ?_)); (next => exact rfl)) | ((with_reducible refine join_intro ?_ ?_); (next => exact rfl)) | (conv => whnf))) | with_reducible refine body_stop (fun Kv hN hX hR => ?_) | with_reducible refine Stop.mk ?_ | with_reducible refine Join.mk ⟨fun Kv hN hX hR => ?_, ?_⟩ | with_reducible refine DrawJ.each ?_ | with_reducible exact SubJ.self _ | with_reducible refine SubJ.of ?_ | with_reducible refine fill2_step (fun Kf hF => ?_) | with_reducible refine fill2_nil ?_ | with_reducible refine node2_step (fun Kg hG => ?_) | (with_reducible refine hF _ _ ?_; clear hF; clear Kf) | (with_reducible refine hG _ _ _ _ ?_; clear hG; clear Kg) | ((with_reducible refine seq_intro ?_ (fun Kv hN hX hR => ?_)); (next => exact rfl)) | ((with_reducible refine join_intro ?_ ?_); (next => exact rfl)) | (with_reducible refine hN _ ?_; (try (clear hG; clear Kg)); clear hN hX hR; clear Kv) | (with_reducible refine hX _ _ ?_; (try (clear hG; clear Kg)); clear hN hX hR; clear Kv) | (with_reducible refine hR _ ?_; (try (clear hG; clear Kg)); clear hN hX hR; clear Kv) | ((conv => whnf); first | with_reducible rfl | with_reducible exact True.intro | with_reducible refine (fun (_ : (_ : Prop)) => ?_) | with_reducible refine And.intro ?_ ?_ | (with_reducible refine hN _ ?_; (try (clear hG; clear Kg)); clear hN hX hR; clear Kv) | (with_reducible refine hX _ _ ?_; (try (clear hG; clear Kg)); clear hN hX hR; clear Kv) | (with_reducible refine hR _ ?_; (try (clear hG; clear Kg)); clear hN hX hR; clear Kv) | with_reducible refine body_stop (fun Kv hN hX hR => ?_) | with_reducible refine Stop.mk ?_ | with_reducible refine Join.mk ⟨fun Kv hN hX hR => ?_, ?_⟩ | with_reducible refine DrawJ.each ?_ | with_reducible exact SubJ.self _ | with_reducible refine SubJ.of ?_ | with_reducible refine fill2_step (fun Kf hF => ?_) | with_reducible refine fill2_nil ?_ | with_reducible refine node2_step (fun Kg hG => ?_) | (with_reducible refine hF _ _ ?_; clear hF; clear Kf) | (with_reducible refine hG _ _ _ _ ?_; clear hG; clear Kg)))); all_goals (conv => whnf); all_goals (repeat ((try (clear hG; clear Kg)); clear hN hX hR; clear Kv))
  all_goals first
    | (have h := of_decide_eq_false (nf (by with_reducible assumption))
       exact (decide_eq_false (fun e => h (by rw [e]))).symm)
    | (refine ⟨0, ⟨by omega, by intros; omega⟩, ?_⟩
       (repeat' (first | ((with_reducible refine body_intro ?_); (first | ((with_reducible refine seq_intro ?_ (fun Kv hN hX hR => ?_)); (next => exact rfl)) | ((with_reducible refine join_intro ?_ ?_); (next => exact rfl)) | (conv => whnf))) | with_reducible refine body_stop (fun Kv hN hX hR => ?_) | with_reducible refine Stop.mk ?_ | with_reducible refine Join.mk ⟨fun Kv hN hX hR => ?_, ?_⟩ | with_reducible refine DrawJ.each ?_ | with_reducible exact SubJ.self _ | with_reducible refine SubJ.of ?_ | with_reducible refine fill2_step (fun Kf hF => ?_) | with_reducible refine fill2_nil ?_ | with_reducible refine node2_step (fun Kg hG => ?_) | (with_reducible refine hF _ _ ?_; clear hF; clear Kf) | (with_reducible refine hG _ _ _ _ ?_; clear hG; clear Kg) | ((with_reducible refine seq_intro ?_ (fun Kv hN hX hR => ?_)); (next => exact rfl)) | ((with_reducible refine join_intro ?_ ?_); (next => exact rfl)) | (with_reducible refine hN _ ?_; (try (clear hG; clear Kg)); clear hN hX hR; clear Kv) | (with_reducible refine hX _ _ ?_; (try (clear hG; clear Kg)); clear hN hX hR; clear Kv) | (with_reducible refine hR _ ?_; (try (clear hG; clear Kg)); clear hN hX hR; clear Kv) | ((conv => whnf); first | with_reducible rfl | with_reducible exact True.intro | with_reducible intro _ | with_reducible refine And.intro ?_ ?_ | (with_reducible refine hN _ ?_; (try (clear hG; clear Kg)); clear hN hX hR; clear Kv) | (with_reducible refine hX _ _ ?_; (try (clear hG; clear Kg)); clear hN hX hR; clear Kv) | (with_reducible refine hR _ ?_; (try (clear hG; clear Kg)); clear hN hX hR; clear Kv) | with_reducible refine body_stop (fun Kv hN hX hR => ?_) | with_reducible refine Stop.mk ?_ | with_reducible refine Join.mk ⟨fun Kv hN hX hR => ?_, ?_⟩ | with_reducible refine DrawJ.each ?_ | with_reducible exact SubJ.self _ | with_reducible refine SubJ.of ?_ | with_reducible refine fill2_step (fun Kf hF => ?_) | with_reducible refine fill2_nil ?_ | with_reducible refine node2_step (fun Kg hG => ?_) | (with_reducible refine hF _ _ ?_; clear hF; clear Kf) | (with_reducible refine hG _ _ _ _ ?_; clear hG; clear Kg)))); all_goals (conv => whnf); all_goals (repeat ((try (clear hG; clear Kg)); clear hN hX hR; clear Kv))
       all_goals rfl)
    | (with_reducible intro i hi
       have hl : (xs.length : Int) = ys.length := of_decide_eq_true (nt (by with_reducible assumption))
       (repeat' (first | ((with_reducible refine body_intro ?_); (first | ((with_reducible refine seq_intro ?_ (fun Kv hN hX hR => ?_)); (next => exact rfl)) | ((with_reducible refine join_intro ?_ ?_); (next => exact rfl)) | (conv => whnf))) | with_reducible refine body_stop (fun Kv hN hX hR => ?_) | with_reducible refine Stop.mk ?_ | with_reducible refine Join.mk ⟨fun Kv hN hX hR => ?_, ?_⟩ | with_reducible refine DrawJ.each ?_ | with_reducible exact SubJ.self _ | with_reducible refine SubJ.of ?_ | with_reducible refine fill2_step (fun Kf hF => ?_) | with_reducible refine fill2_nil ?_ | with_reducible refine node2_step (fun Kg hG => ?_) | (with_reducible refine hF _ _ ?_; clear hF; clear Kf) | (with_reducible refine hG _ _ _ _ ?_; clear hG; clear Kg) | ((with_reducible refine seq_intro ?_ (fun Kv hN hX hR => ?_)); (next => exact rfl)) | ((with_reducible refine join_intro ?_ ?_); (next => exact rfl)) | (with_reducible refine hN _ ?_; (try (clear hG; clear Kg)); clear hN hX hR; clear Kv) | (with_reducible refine hX _ _ ?_; (try (clear hG; clear Kg)); clear hN hX hR; clear Kv) | (with_reducible refine hR _ ?_; (try (clear hG; clear Kg)); clear hN hX hR; clear Kv) | ((conv => whnf); first | with_reducible rfl | with_reducible exact True.intro | with_reducible intro _ | with_reducible refine And.intro ?_ ?_ | (with_reducible refine hN _ ?_; (try (clear hG; clear Kg)); clear hN hX hR; clear Kv) | (with_reducible refine hX _ _ ?_; (try (clear hG; clear Kg)); clear hN hX hR; clear Kv) | (with_reducible refine hR _ ?_; (try (clear hG; clear Kg)); clear hN hX hR; clear Kv) | with_reducible refine body_stop (fun Kv hN hX hR => ?_) | with_reducible refine Stop.mk ?_ | with_reducible refine Join.mk ⟨fun Kv hN hX hR => ?_, ?_⟩ | with_reducible refine DrawJ.each ?_ | with_reducible exact SubJ.self _ | with_reducible refine SubJ.of ?_ | with_reducible refine fill2_step (fun Kf hF => ?_) | with_reducible refine fill2_nil ?_ | with_reducible refine node2_step (fun Kg hG => ?_) | (with_reducible refine hF _ _ ?_; clear hF; clear Kf) | (with_reducible refine hG _ _ _ _ ?_; clear hG; clear Kg)))); all_goals (conv => whnf); all_goals (repeat ((try (clear hG; clear Kg)); clear hN hX hR; clear Kv))
       all_goals (try simp only [Int.toNat_natCast] at *)
       all_goals first
         | (have h := of_decide_eq_true (show decide ((i : Int) < (xs.length : Nat)) = true by with_reducible assumption)
            exact Ob.mk ⟨by omega, by omega⟩)
         | (have h := of_decide_eq_true (show decide ((i : Int) < (xs.length : Nat)) = true by with_reducible assumption)
            have h3 : ¬ (xs.getD i default = ys.getD i default) := by
              intro e
              simp_all
              done
            exact (decide_eq_false (fun e => h3 (by rw [e]))).symm)
         | (have h := of_decide_eq_true (show decide ((i : Int) < (xs.length : Nat)) = true by with_reducible assumption)
            have h3 : xs.getD i default = ys.getD i default := by
              simp only [Bool.not_eq_false', Bool.and_eq_true, decide_eq_true_eq] at *
              first
                | assumption
                | (rename_i h4; cases hx : xs.getD i default; cases hy : ys.getD i default; simp_all)
            refine ⟨i + 1, ⟨by omega, fun j hj => ?_⟩, by show xs.length - (i + 1) < xs.length - i; omega, ?_⟩
            · rcases Nat.lt_succ_iff_lt_or_eq.1 hj with h4 | h4
              · exact hi.2 j h4
              · subst h4; exact h3
            · (repeat' (first | ((with_reducible refine body_intro ?_); (first | ((with_reducible refine seq_intro ?_ (fun Kv hN hX hR => ?_)); (next => exact rfl)) | ((with_reducible refine join_intro ?_ ?_); (next => exact rfl)) | (conv => whnf))) | with_reducible refine body_stop (fun Kv hN hX hR => ?_) | with_reducible refine Stop.mk ?_ | with_reducible refine Join.mk ⟨fun Kv hN hX hR => ?_, ?_⟩ | with_reducible refine DrawJ.each ?_ | with_reducible exact SubJ.self _ | with_reducible refine SubJ.of ?_ | with_reducible refine fill2_step (fun Kf hF => ?_) | with_reducible refine fill2_nil ?_ | with_reducible refine node2_step (fun Kg hG => ?_) | (with_reducible refine hF _ _ ?_; clear hF; clear Kf) | (with_reducible refine hG _ _ _ _ ?_; clear hG; clear Kg) | ((with_reducible refine seq_intro ?_ (fun Kv hN hX hR => ?_)); (next => exact rfl)) | ((with_reducible refine join_intro ?_ ?_); (next => exact rfl)) | (with_reducible refine hN _ ?_; (try (clear hG; clear Kg)); clear hN hX hR; clear Kv) | (with_reducible refine hX _ _ ?_; (try (clear hG; clear Kg)); clear hN hX hR; clear Kv) | (with_reducible refine hR _ ?_; (try (clear hG; clear Kg)); clear hN hX hR; clear Kv) | ((conv => whnf); first | with_reducible rfl | with_reducible exact True.intro | with_reducible intro _ | with_reducible refine And.intro ?_ ?_ | (with_reducible refine hN _ ?_; (try (clear hG; clear Kg)); clear hN hX hR; clear Kv) | (with_reducible refine hX _ _ ?_; (try (clear hG; clear Kg)); clear hN hX hR; clear Kv) | (with_reducible refine hR _ ?_; (try (clear hG; clear Kg)); clear hN hX hR; clear Kv) | with_reducible refine body_stop (fun Kv hN hX hR => ?_) | with_reducible refine Stop.mk ?_ | with_reducible refine Join.mk ⟨fun Kv hN hX hR => ?_, ?_⟩ | with_reducible refine DrawJ.each ?_ | with_reducible exact SubJ.self _ | with_reducible refine SubJ.of ?_ | with_reducible refine fill2_step (fun Kf hF => ?_) | with_reducible refine fill2_nil ?_ | with_reducible refine node2_step (fun Kg hG => ?_) | (with_reducible refine hF _ _ ?_; clear hF; clear Kf) | (with_reducible refine hG _ _ _ _ ?_; clear hG; clear Kg)))); all_goals (conv => whnf); all_goals (repeat ((try (clear hG; clear Kg)); clear hN hX hR; clear Kv))
              all_goals first
                | exact wrapI (by omega) (by omega)
                | rfl)
         | (have h := of_decide_eq_false (show decide ((i : Int) < (xs.length : Nat)) = false by with_reducible assumption)
            exact (decide_eq_true (eq_of_take (d := default) (by omega) fun j hj => hi.2 j (by omega))).symm)
         | trace_state)
    | trace_state
end Go.Proofs.Ytaapoiikbolgnaa

/- Contracts: the laws' comparisons: Items. -/
namespace Go.Proofs.Ytaapoiikbolgnaa
open Go.RowKit

theorem k_SameItems : Known Try.prog tau 40 (S2 dItems dItems fun a b => okB (decide (a = b))) := by
  refine known2 hmix tau_ok ctx_nil (fn := Try.f40) (by kernel_rfl) [(6, [(0, 0), (1, 0), (2, 3), (3, 4), (4, 0), (5, 0), (6, 48), (7, 64), (8, 136)])] (by kernel_rfl) _ _ _ fun xs ys hfit => ⟨rfl,
    [(4, invN [4, 5, 11, 12, 13, 14, 15, 16, 17, 18, 19, 20, 21, 22, 23, 24, 25] (fun i => i ≤ xs.length ∧ ∀ j, j < i → xs.getD j default = ys.getD j default) (fun i => withS [(5, .int .i64 i)]) (fun i => xs.length - i))], ?_⟩
  have hlen : xs.length * 40 ≤ 140737488355328 := hfit.1
  clear hfit
  (repeat' (first | ((with_reducible refine body_intro ?_); (first | ((with_reducible refine seq_intro ?_ (fun Kv hN hX hR => ?_)); (next => exact rfl)) | ((with_reducible refine join_intro ?_ ?_); (next => exact rfl)) | (conv => whnf))) | with_reducible refine body_stop (fun Kv hN hX hR => ?_) | with_reducible refine Stop.mk ?_ | with_reducible refine Join.mk ⟨fun Kv hN hX hR => ?_, ?_⟩ | with_reducible refine DrawJ.each ?_ | with_reducible exact SubJ.self _ | with_reducible refine SubJ.of ?_ | with_reducible refine fill2_step (fun Kf hF => ?_) | with_reducible refine fill2_nil ?_ | with_reducible refine node2_step (fun Kg hG => ?_) | (with_reducible refine hF _ _ ?_; clear hF; clear Kf) | (with_reducible refine hG _ _ _ _ ?_; clear hG; clear Kg) | ((with_reducible refine seq_intro ?_ (fun Kv hN hX hR => ?_)); (next => exact rfl)) | ((with_reducible refine join_intro ?_ ?_); (next => exact rfl)) | (with_reducible refine hN _ ?_; (try (clear hG; clear Kg)); clear hN hX hR; clear Kv) | (with_reducible refine hX _ _ ?_; (try (clear hG; clear Kg)); clear hN hX hR; clear Kv) | (with_reducible refine hR _ ?_; (try (clear hG; clear Kg)); clear hN hX hR; clear Kv) | ((conv => whnf); first | with_reducible rfl | with_reducible exact True.intro | with_reducible refine (fun (_ : (_ : Prop)) => ?_) | with_reducible refine And.intro ?_ ?_ | (with_reducible refine hN _ ?_; (try (clear hG; clear Kg)); clear hN hX hR; clear Kv) | (with_reducible refine hX _ _ ?_; (try (clear hG; clear Kg)); clear hN hX hR; clear Kv) | (with_reducible refine hR _ ?_; (try (clear hG; clear Kg)); clear hN hX hR; clear Kv) | with_reducible refine body_stop (fun Kv hN hX hR => ?_) | with_reducible refine Stop.mk ?_ | with_reducible refine Join.mk ⟨fun Kv hN hX hR => ?_, ?_⟩ | with_reducible refine DrawJ.each ?_ | with_reducible exact SubJ.self _ | with_reducible refine SubJ.of ?_ | with_reducible refine fill2_step (fun Kf hF => ?_) | with_reducible refine fill2_nil ?_ | with_reducible refine node2_step (fun Kg hG => ?_) | (with_reducible refine hF _ _ ?_; clear hF; clear Kf) | (with_reducible refine hG _ _ _ _ ?_; clear hG; clear Kg)))); all_goals (conv => whnf); all_goals (repeat ((try (clear hG; clear Kg)); clear hN hX hR; clear Kv))
  all_goals first
    | (have h := of_decide_eq_false (nf (by with_reducible assumption))
       exact (decide_eq_false (fun e => h (by rw [e]))).symm)
    | (refine ⟨0, ⟨by omega, by intros; omega⟩, ?_⟩
       (repeat' (first | ((with_reducible refine body_intro ?_); (first | ((with_reducible refine seq_intro ?_ (fun Kv hN hX hR => ?_)); (next => exact rfl)) | ((with_reducible refine join_intro ?_ ?_); (next => exact rfl)) | (conv => whnf))) | with_reducible refine body_stop (fun Kv hN hX hR => ?_) | with_reducible refine Stop.mk ?_ | with_reducible refine Join.mk ⟨fun Kv hN hX hR => ?_, ?_⟩ | with_reducible refine DrawJ.each ?_ | with_reducible exact SubJ.self _ | with_reducible refine SubJ.of ?_ | with_reducible refine fill2_step (fun Kf hF => ?_) | with_reducible refine fill2_nil ?_ | with_reducible refine node2_step (fun Kg hG => ?_) | (with_reducible refine hF _ _ ?_; clear hF; clear Kf) | (with_reducible refine hG _ _ _ _ ?_; clear hG; clear Kg) | ((with_reducible refine seq_intro ?_ (fun Kv hN hX hR => ?_)); (next => exact rfl)) | ((with_reducible refine join_intro ?_ ?_); (next => exact rfl)) | (with_reducible refine hN _ ?_; (try (clear hG; clear Kg)); clear hN hX hR; clear Kv) | (with_reducible refine hX _ _ ?_; (try (clear hG; clear Kg)); clear hN hX hR; clear Kv) | (with_reducible refine hR _ ?_; (try (clear hG; clear Kg)); clear hN hX hR; clear Kv) | ((conv => whnf); first | with_reducible rfl | with_reducible exact True.intro | with_reducible intro _ | with_reducible refine And.intro ?_ ?_ | (with_reducible refine hN _ ?_; (try (clear hG; clear Kg)); clear hN hX hR; clear Kv) | (with_reducible refine hX _ _ ?_; (try (clear hG; clear Kg)); clear hN hX hR; clear Kv) | (with_reducible refine hR _ ?_; (try (clear hG; clear Kg)); clear hN hX hR; clear Kv) | with_reducible refine body_stop (fun Kv hN hX hR => ?_) | with_reducible refine Stop.mk ?_ | with_reducible refine Join.mk ⟨fun Kv hN hX hR => ?_, ?_⟩ | with_reducible refine DrawJ.each ?_ | with_reducible exact SubJ.self _ | with_reducible refine SubJ.of ?_ | with_reducible refine fill2_step (fun Kf hF => ?_) | with_reducible refine fill2_nil ?_ | with_reducible refine node2_step (fun Kg hG => ?_) | (with_reducible refine hF _ _ ?_; clear hF; clear Kf) | (with_reducible refine hG _ _ _ _ ?_; clear hG; clear Kg)))); all_goals (conv => whnf); all_goals (repeat ((try (clear hG; clear Kg)); clear hN hX hR; clear Kv))
       all_goals rfl)
    | (with_reducible intro i hi
       have hl : (xs.length : Int) = ys.length := of_decide_eq_true (nt (by with_reducible assumption))
       (repeat' (first | ((with_reducible refine body_intro ?_); (first | ((with_reducible refine seq_intro ?_ (fun Kv hN hX hR => ?_)); (next => exact rfl)) | ((with_reducible refine join_intro ?_ ?_); (next => exact rfl)) | (conv => whnf))) | with_reducible refine body_stop (fun Kv hN hX hR => ?_) | with_reducible refine Stop.mk ?_ | with_reducible refine Join.mk ⟨fun Kv hN hX hR => ?_, ?_⟩ | with_reducible refine DrawJ.each ?_ | with_reducible exact SubJ.self _ | with_reducible refine SubJ.of ?_ | with_reducible refine fill2_step (fun Kf hF => ?_) | with_reducible refine fill2_nil ?_ | with_reducible refine node2_step (fun Kg hG => ?_) | (with_reducible refine hF _ _ ?_; clear hF; clear Kf) | (with_reducible refine hG _ _ _ _ ?_; clear hG; clear Kg) | ((with_reducible refine seq_intro ?_ (fun Kv hN hX hR => ?_)); (next => exact rfl)) | ((with_reducible refine join_intro ?_ ?_); (next => exact rfl)) | (with_reducible refine hN _ ?_; (try (clear hG; clear Kg)); clear hN hX hR; clear Kv) | (with_reducible refine hX _ _ ?_; (try (clear hG; clear Kg)); clear hN hX hR; clear Kv) | (with_reducible refine hR _ ?_; (try (clear hG; clear Kg)); clear hN hX hR; clear Kv) | ((conv => whnf); first | with_reducible rfl | with_reducible exact True.intro | with_reducible intro _ | with_reducible refine And.intro ?_ ?_ | (with_reducible refine hN _ ?_; (try (clear hG; clear Kg)); clear hN hX hR; clear Kv) | (with_reducible refine hX _ _ ?_; (try (clear hG; clear Kg)); clear hN hX hR; clear Kv) | (with_reducible refine hR _ ?_; (try (clear hG; clear Kg)); clear hN hX hR; clear Kv) | with_reducible refine body_stop (fun Kv hN hX hR => ?_) | with_reducible refine Stop.mk ?_ | with_reducible refine Join.mk ⟨fun Kv hN hX hR => ?_, ?_⟩ | with_reducible refine DrawJ.each ?_ | with_reducible exact SubJ.self _ | with_reducible refine SubJ.of ?_ | with_reducible refine fill2_step (fun Kf hF => ?_) | with_reducible refine fill2_nil ?_ | with_reducible refine node2_step (fun Kg hG => ?_) | (with_reducible refine hF _ _ ?_; clear hF; clear Kf) | (with_reducible refine hG _ _ _ _ ?_; clear hG; clear Kg)))); all_goals (conv => whnf); all_goals (repeat ((try (clear hG; clear Kg)); clear hN hX hR; clear Kv))
       all_goals (try simp only [Int.toNat_natCast] at *)
       all_goals first
         | (have h := of_decide_eq_true (show decide ((i : Int) < (xs.length : Nat)) = true by with_reducible assumption)
            exact Ob.mk ⟨by omega, by omega⟩)
         | (have h := of_decide_eq_true (show decide ((i : Int) < (xs.length : Nat)) = true by with_reducible assumption)
            have h3 : ¬ (xs.getD i default = ys.getD i default) := by
              intro e
              simp_all
              done
            exact (decide_eq_false (fun e => h3 (by rw [e]))).symm)
         | (have h := of_decide_eq_true (show decide ((i : Int) < (xs.length : Nat)) = true by with_reducible assumption)
            have h3 : xs.getD i default = ys.getD i default := by
              have key : ∀ p q : GItem, (!(decide (p.key = q.key) && (decide (p.ver.count = q.ver.count) && (decide (p.ver.writer = q.ver.writer) && (decide (p.value = q.value) && p.gone == q.gone))))) = false → p = q := by
                rintro ⟨_, ⟨_, _⟩, _, _⟩ ⟨_, ⟨_, _⟩, _, _⟩ h
                simp_all
              exact key _ _ (by with_reducible assumption)
            refine ⟨i + 1, ⟨by omega, fun j hj => ?_⟩, by show xs.length - (i + 1) < xs.length - i; omega, ?_⟩
            · rcases Nat.lt_succ_iff_lt_or_eq.1 hj with h4 | h4
              · exact hi.2 j h4
              · subst h4; exact h3
            · (repeat' (first | ((with_reducible refine body_intro ?_); (first | ((with_reducible refine seq_intro ?_ (fun Kv hN hX hR => ?_)); (next => exact rfl)) | ((with_reducible refine join_intro ?_ ?_); (next => exact rfl)) | (conv => whnf))) | with_reducible refine body_stop (fun Kv hN hX hR => ?_) | with_reducible refine Stop.mk ?_ | with_reducible refine Join.mk ⟨fun Kv hN hX hR => ?_, ?_⟩ | with_reducible refine DrawJ.each ?_ | with_reducible exact SubJ.self _ | with_reducible refine SubJ.of ?_ | with_reducible refine fill2_step (fun Kf hF => ?_) | with_reducible refine fill2_nil ?_ | with_reducible refine node2_step (fun Kg hG => ?_) | (with_reducible refine hF _ _ ?_; clear hF; clear Kf) | (with_reducible refine hG _ _ _ _ ?_; clear hG; clear Kg) | ((with_reducible refine seq_intro ?_ (fun Kv hN hX hR => ?_)); (next => exact rfl)) | ((with_reducible refine join_intro ?_ ?_); (next => exact rfl)) | (with_reducible refine hN _ ?_; (try (clear hG; clear Kg)); clear hN hX hR; clear Kv) | (with_reducible refine hX _ _ ?_; (try (clear hG; clear Kg)); clear hN hX hR; clear Kv) | (with_reducible refine hR _ ?_; (try (clear hG; clear Kg)); clear hN hX hR; clear Kv) | ((conv => whnf); first | with_reducible rfl | with_reducible exact True.intro | with_reducible intro _ | with_reducible refine And.intro ?_ ?_ | (with_reducible refine hN _ ?_; (try (clear hG; clear Kg)); clear hN hX hR; clear Kv) | (with_reducible refine hX _ _ ?_; (try (clear hG; clear Kg)); clear hN hX hR; clear Kv) | (with_reducible refine hR _ ?_; (try (clear hG; clear Kg)); clear hN hX hR; clear Kv) | with_reducible refine body_stop (fun Kv hN hX hR => ?_) | with_reducible refine Stop.mk ?_ | with_reducible refine Join.mk ⟨fun Kv hN hX hR => ?_, ?_⟩ | with_reducible refine DrawJ.each ?_ | with_reducible exact SubJ.self _ | with_reducible refine SubJ.of ?_ | with_reducible refine fill2_step (fun Kf hF => ?_) | with_reducible refine fill2_nil ?_ | with_reducible refine node2_step (fun Kg hG => ?_) | (with_reducible refine hF _ _ ?_; clear hF; clear Kf) | (with_reducible refine hG _ _ _ _ ?_; clear hG; clear Kg)))); all_goals (conv => whnf); all_goals (repeat ((try (clear hG; clear Kg)); clear hN hX hR; clear Kv))
              all_goals first
                | exact wrapI (by omega) (by omega)
                | rfl)
         | (have h := of_decide_eq_false (show decide ((i : Int) < (xs.length : Nat)) = false by with_reducible assumption)
            exact (decide_eq_true (eq_of_take (d := default) (by omega) fun j hj => hi.2 j (by omega))).symm)
         | trace_state)
    | trace_state
end Go.Proofs.Ytaapoiikbolgnaa

/- Contracts: the laws' comparisons: Tolds. -/
namespace Go.Proofs.Ytaapoiikbolgnaa
open Go.RowKit

theorem k_SameTolds : Known Try.prog tau 41 (S2 dTolds dTolds fun a b => okB (decide (a = b))) := by
  refine known2 hmix tau_ok ctx_nil (fn := Try.f41) (by kernel_rfl) [(6, [(0, 0), (1, 0), (2, 3), (3, 4), (4, 0), (5, 0), (6, 48), (7, 64), (8, 136)])] (by kernel_rfl) _ _ _ fun xs ys hfit => ⟨rfl,
    [(4, invN [4, 5, 11, 12, 13, 14, 15, 16, 17, 18, 19, 20, 21, 22, 23, 24, 25] (fun i => i ≤ xs.length ∧ ∀ j, j < i → xs.getD j default = ys.getD j default) (fun i => withS [(5, .int .i64 i)]) (fun i => xs.length - i))], ?_⟩
  have hlen : xs.length * 24 ≤ 140737488355328 := hfit.1
  clear hfit
  (repeat' (first | ((with_reducible refine body_intro ?_); (first | ((with_reducible refine seq_intro ?_ (fun Kv hN hX hR => ?_)); (next => exact rfl)) | ((with_reducible refine join_intro ?_ ?_); (next => exact rfl)) | (conv => whnf))) | with_reducible refine body_stop (fun Kv hN hX hR => ?_) | with_reducible refine Stop.mk ?_ | with_reducible refine Join.mk ⟨fun Kv hN hX hR => ?_, ?_⟩ | with_reducible refine DrawJ.each ?_ | with_reducible exact SubJ.self _ | with_reducible refine SubJ.of ?_ | with_reducible refine fill2_step (fun Kf hF => ?_) | with_reducible refine fill2_nil ?_ | with_reducible refine node2_step (fun Kg hG => ?_) | (with_reducible refine hF _ _ ?_; clear hF; clear Kf) | (with_reducible refine hG _ _ _ _ ?_; clear hG; clear Kg) | ((with_reducible refine seq_intro ?_ (fun Kv hN hX hR => ?_)); (next => exact rfl)) | ((with_reducible refine join_intro ?_ ?_); (next => exact rfl)) | (with_reducible refine hN _ ?_; (try (clear hG; clear Kg)); clear hN hX hR; clear Kv) | (with_reducible refine hX _ _ ?_; (try (clear hG; clear Kg)); clear hN hX hR; clear Kv) | (with_reducible refine hR _ ?_; (try (clear hG; clear Kg)); clear hN hX hR; clear Kv) | ((conv => whnf); first | with_reducible rfl | with_reducible exact True.intro | with_reducible refine (fun (_ : (_ : Prop)) => ?_) | with_reducible refine And.intro ?_ ?_ | (with_reducible refine hN _ ?_; (try (clear hG; clear Kg)); clear hN hX hR; clear Kv) | (with_reducible refine hX _ _ ?_; (try (clear hG; clear Kg)); clear hN hX hR; clear Kv) | (with_reducible refine hR _ ?_; (try (clear hG; clear Kg)); clear hN hX hR; clear Kv) | with_reducible refine body_stop (fun Kv hN hX hR => ?_) | with_reducible refine Stop.mk ?_ | with_reducible refine Join.mk ⟨fun Kv hN hX hR => ?_, ?_⟩ | with_reducible refine DrawJ.each ?_ | with_reducible exact SubJ.self _ | with_reducible refine SubJ.of ?_ | with_reducible refine fill2_step (fun Kf hF => ?_) | with_reducible refine fill2_nil ?_ | with_reducible refine node2_step (fun Kg hG => ?_) | (with_reducible refine hF _ _ ?_; clear hF; clear Kf) | (with_reducible refine hG _ _ _ _ ?_; clear hG; clear Kg)))); all_goals (conv => whnf); all_goals (repeat ((try (clear hG; clear Kg)); clear hN hX hR; clear Kv))
  all_goals first
    | (have h := of_decide_eq_false (nf (by with_reducible assumption))
       exact (decide_eq_false (fun e => h (by rw [e]))).symm)
    | (refine ⟨0, ⟨by omega, by intros; omega⟩, ?_⟩
       (repeat' (first | ((with_reducible refine body_intro ?_); (first | ((with_reducible refine seq_intro ?_ (fun Kv hN hX hR => ?_)); (next => exact rfl)) | ((with_reducible refine join_intro ?_ ?_); (next => exact rfl)) | (conv => whnf))) | with_reducible refine body_stop (fun Kv hN hX hR => ?_) | with_reducible refine Stop.mk ?_ | with_reducible refine Join.mk ⟨fun Kv hN hX hR => ?_, ?_⟩ | with_reducible refine DrawJ.each ?_ | with_reducible exact SubJ.self _ | with_reducible refine SubJ.of ?_ | with_reducible refine fill2_step (fun Kf hF => ?_) | with_reducible refine fill2_nil ?_ | with_reducible refine node2_step (fun Kg hG => ?_) | (with_reducible refine hF _ _ ?_; clear hF; clear Kf) | (with_reducible refine hG _ _ _ _ ?_; clear hG; clear Kg) | ((with_reducible refine seq_intro ?_ (fun Kv hN hX hR => ?_)); (next => exact rfl)) | ((with_reducible refine join_intro ?_ ?_); (next => exact rfl)) | (with_reducible refine hN _ ?_; (try (clear hG; clear Kg)); clear hN hX hR; clear Kv) | (with_reducible refine hX _ _ ?_; (try (clear hG; clear Kg)); clear hN hX hR; clear Kv) | (with_reducible refine hR _ ?_; (try (clear hG; clear Kg)); clear hN hX hR; clear Kv) | ((conv => whnf); first | with_reducible rfl | with_reducible exact True.intro | with_reducible intro _ | with_reducible refine And.intro ?_ ?_ | (with_reducible refine hN _ ?_; (try (clear hG; clear Kg)); clear hN hX hR; clear Kv) | (with_reducible refine hX _ _ ?_; (try (clear hG; clear Kg)); clear hN hX hR; clear Kv) | (with_reducible refine hR _ ?_; (try (clear hG; clear Kg)); clear hN hX hR; clear Kv) | with_reducible refine body_stop (fun Kv hN hX hR => ?_) | with_reducible refine Stop.mk ?_ | with_reducible refine Join.mk ⟨fun Kv hN hX hR => ?_, ?_⟩ | with_reducible refine DrawJ.each ?_ | with_reducible exact SubJ.self _ | with_reducible refine SubJ.of ?_ | with_reducible refine fill2_step (fun Kf hF => ?_) | with_reducible refine fill2_nil ?_ | with_reducible refine node2_step (fun Kg hG => ?_) | (with_reducible refine hF _ _ ?_; clear hF; clear Kf) | (with_reducible refine hG _ _ _ _ ?_; clear hG; clear Kg)))); all_goals (conv => whnf); all_goals (repeat ((try (clear hG; clear Kg)); clear hN hX hR; clear Kv))
       all_goals rfl)
    | (with_reducible intro i hi
       have hl : (xs.length : Int) = ys.length := of_decide_eq_true (nt (by with_reducible assumption))
       (repeat' (first | ((with_reducible refine body_intro ?_); (first | ((with_reducible refine seq_intro ?_ (fun Kv hN hX hR => ?_)); (next => exact rfl)) | ((with_reducible refine join_intro ?_ ?_); (next => exact rfl)) | (conv => whnf))) | with_reducible refine body_stop (fun Kv hN hX hR => ?_) | with_reducible refine Stop.mk ?_ | with_reducible refine Join.mk ⟨fun Kv hN hX hR => ?_, ?_⟩ | with_reducible refine DrawJ.each ?_ | with_reducible exact SubJ.self _ | with_reducible refine SubJ.of ?_ | with_reducible refine fill2_step (fun Kf hF => ?_) | with_reducible refine fill2_nil ?_ | with_reducible refine node2_step (fun Kg hG => ?_) | (with_reducible refine hF _ _ ?_; clear hF; clear Kf) | (with_reducible refine hG _ _ _ _ ?_; clear hG; clear Kg) | ((with_reducible refine seq_intro ?_ (fun Kv hN hX hR => ?_)); (next => exact rfl)) | ((with_reducible refine join_intro ?_ ?_); (next => exact rfl)) | (with_reducible refine hN _ ?_; (try (clear hG; clear Kg)); clear hN hX hR; clear Kv) | (with_reducible refine hX _ _ ?_; (try (clear hG; clear Kg)); clear hN hX hR; clear Kv) | (with_reducible refine hR _ ?_; (try (clear hG; clear Kg)); clear hN hX hR; clear Kv) | ((conv => whnf); first | with_reducible rfl | with_reducible exact True.intro | with_reducible intro _ | with_reducible refine And.intro ?_ ?_ | (with_reducible refine hN _ ?_; (try (clear hG; clear Kg)); clear hN hX hR; clear Kv) | (with_reducible refine hX _ _ ?_; (try (clear hG; clear Kg)); clear hN hX hR; clear Kv) | (with_reducible refine hR _ ?_; (try (clear hG; clear Kg)); clear hN hX hR; clear Kv) | with_reducible refine body_stop (fun Kv hN hX hR => ?_) | with_reducible refine Stop.mk ?_ | with_reducible refine Join.mk ⟨fun Kv hN hX hR => ?_, ?_⟩ | with_reducible refine DrawJ.each ?_ | with_reducible exact SubJ.self _ | with_reducible refine SubJ.of ?_ | with_reducible refine fill2_step (fun Kf hF => ?_) | with_reducible refine fill2_nil ?_ | with_reducible refine node2_step (fun Kg hG => ?_) | (with_reducible refine hF _ _ ?_; clear hF; clear Kf) | (with_reducible refine hG _ _ _ _ ?_; clear hG; clear Kg)))); all_goals (conv => whnf); all_goals (repeat ((try (clear hG; clear Kg)); clear hN hX hR; clear Kv))
       all_goals (try simp only [Int.toNat_natCast] at *)
       all_goals first
         | (have h := of_decide_eq_true (show decide ((i : Int) < (xs.length : Nat)) = true by with_reducible assumption)
            exact Ob.mk ⟨by omega, by omega⟩)
         | (have h := of_decide_eq_true (show decide ((i : Int) < (xs.length : Nat)) = true by with_reducible assumption)
            have h3 : ¬ (xs.getD i default = ys.getD i default) := by
              intro e
              simp_all
              done
            exact (decide_eq_false (fun e => h3 (by rw [e]))).symm)
         | (have h := of_decide_eq_true (show decide ((i : Int) < (xs.length : Nat)) = true by with_reducible assumption)
            have h3 : xs.getD i default = ys.getD i default := by
              simp only [Bool.not_eq_false', Bool.and_eq_true, decide_eq_true_eq] at *
              first
                | assumption
                | (rename_i h4; cases hx : xs.getD i default; cases hy : ys.getD i default; simp_all)
            refine ⟨i + 1, ⟨by omega, fun j hj => ?_⟩, by show xs.length - (i + 1) < xs.length - i; omega, ?_⟩
            · rcases Nat.lt_succ_iff_lt_or_eq.1 hj with h4 | h4
              · exact hi.2 j h4
              · subst h4; exact h3
            · (repeat' (first | ((with_reducible refine body_intro ?_); (first | ((with_reducible refine seq_intro ?_ (fun Kv hN hX hR => ?_)); (next => exact rfl)) | ((with_reducible refine join_intro ?_ ?_); (next => exact rfl)) | (conv => whnf))) | with_reducible refine body_stop (fun Kv hN hX hR => ?_) | with_reducible refine Stop.mk ?_ | with_reducible refine Join.mk ⟨fun Kv hN hX hR => ?_, ?_⟩ | with_reducible refine DrawJ.each ?_ | with_reducible exact SubJ.self _ | with_reducible refine SubJ.of ?_ | with_reducible refine fill2_step (fun Kf hF => ?_) | with_reducible refine fill2_nil ?_ | with_reducible refine node2_step (fun Kg hG => ?_) | (with_reducible refine hF _ _ ?_; clear hF; clear Kf) | (with_reducible refine hG _ _ _ _ ?_; clear hG; clear Kg) | ((with_reducible refine seq_intro ?_ (fun Kv hN hX hR => ?_)); (next => exact rfl)) | ((with_reducible refine join_intro ?_ ?_); (next => exact rfl)) | (with_reducible refine hN _ ?_; (try (clear hG; clear Kg)); clear hN hX hR; clear Kv) | (with_reducible refine hX _ _ ?_; (try (clear hG; clear Kg)); clear hN hX hR; clear Kv) | (with_reducible refine hR _ ?_; (try (clear hG; clear Kg)); clear hN hX hR; clear Kv) | ((conv => whnf); first | with_reducible rfl | with_reducible exact True.intro | with_reducible intro _ | with_reducible refine And.intro ?_ ?_ | (with_reducible refine hN _ ?_; (try (clear hG; clear Kg)); clear hN hX hR; clear Kv) | (with_reducible refine hX _ _ ?_; (try (clear hG; clear Kg)); clear hN hX hR; clear Kv) | (with_reducible refine hR _ ?_; (try (clear hG; clear Kg)); clear hN hX hR; clear Kv) | with_reducible refine body_stop (fun Kv hN hX hR => ?_) | with_reducible refine Stop.mk ?_ | with_reducible refine Join.mk ⟨fun Kv hN hX hR => ?_, ?_⟩ | with_reducible refine DrawJ.each ?_ | with_reducible exact SubJ.self _ | with_reducible refine SubJ.of ?_ | with_reducible refine fill2_step (fun Kf hF => ?_) | with_reducible refine fill2_nil ?_ | with_reducible refine node2_step (fun Kg hG => ?_) | (with_reducible refine hF _ _ ?_; clear hF; clear Kf) | (with_reducible refine hG _ _ _ _ ?_; clear hG; clear Kg)))); all_goals (conv => whnf); all_goals (repeat ((try (clear hG; clear Kg)); clear hN hX hR; clear Kv))
              all_goals first
                | exact wrapI (by omega) (by omega)
                | rfl)
         | (have h := of_decide_eq_false (show decide ((i : Int) < (xs.length : Nat)) = false by with_reducible assumption)
            exact (decide_eq_true (eq_of_take (d := default) (by omega) fun j hj => hi.2 j (by omega))).symm)
         | trace_state)
    | trace_state
end Go.Proofs.Ytaapoiikbolgnaa

/- Chapter 16: the laws' functions. -/
namespace Go.Proofs.Ytaapoiikbolgnaa
open Go.RowKit

theorem k_SameView : Known Try.prog tau 27 (S2 dView dView fun a b => okB (decide (a = b))) := by
  refine known2 hmix tau_ok (ctx_cons k_SamePeers (ctx_cons k_SameInts ctx_nil)) (fn := Try.f27) (by kernel_rfl) [] (by kernel_rfl) _ _ _ fun a b hfit => ⟨rfl, [], ?_⟩
  clear hfit
  (repeat' (first | ((with_reducible refine body_intro ?_); (first | ((with_reducible refine seq_intro ?_ (fun Kv hN hX hR => ?_)); (next => exact rfl)) | ((with_reducible refine join_intro ?_ ?_); (next => exact rfl)) | (conv => whnf))) | with_reducible refine body_stop (fun Kv hN hX hR => ?_) | with_reducible refine Stop.mk ?_ | with_reducible refine Join.mk ⟨fun Kv hN hX hR => ?_, ?_⟩ | with_reducible refine DrawJ.each ?_ | with_reducible exact SubJ.self _ | with_reducible refine SubJ.of ?_ | with_reducible refine fill2_step (fun Kf hF => ?_) | with_reducible refine fill2_nil ?_ | with_reducible refine node2_step (fun Kg hG => ?_) | (with_reducible refine hF _ _ ?_; clear hF; clear Kf) | (with_reducible refine hG _ _ _ _ ?_; clear hG; clear Kg) | ((with_reducible refine seq_intro ?_ (fun Kv hN hX hR => ?_)); (next => exact rfl)) | ((with_reducible refine join_intro ?_ ?_); (next => exact rfl)) | (with_reducible refine hN _ ?_; (try (clear hG; clear Kg)); clear hN hX hR; clear Kv) | (with_reducible refine hX _ _ ?_; (try (clear hG; clear Kg)); clear hN hX hR; clear Kv) | (with_reducible refine hR _ ?_; (try (clear hG; clear Kg)); clear hN hX hR; clear Kv) | ((conv => whnf); first | with_reducible rfl | with_reducible exact True.intro | with_reducible intro _ | with_reducible refine And.intro ?_ ?_ | (with_reducible refine hN _ ?_; (try (clear hG; clear Kg)); clear hN hX hR; clear Kv) | (with_reducible refine hX _ _ ?_; (try (clear hG; clear Kg)); clear hN hX hR; clear Kv) | (with_reducible refine hR _ ?_; (try (clear hG; clear Kg)); clear hN hX hR; clear Kv) | with_reducible refine body_stop (fun Kv hN hX hR => ?_) | with_reducible refine Stop.mk ?_ | with_reducible refine Join.mk ⟨fun Kv hN hX hR => ?_, ?_⟩ | with_reducible refine DrawJ.each ?_ | with_reducible exact SubJ.self _ | with_reducible refine SubJ.of ?_ | with_reducible refine fill2_step (fun Kf hF => ?_) | with_reducible refine fill2_nil ?_ | with_reducible refine node2_step (fun Kg hG => ?_) | (with_reducible refine hF _ _ ?_; clear hF; clear Kf) | (with_reducible refine hG _ _ _ _ ?_; clear hG; clear Kg)))); all_goals (conv => whnf); all_goals (repeat ((try (clear hG; clear Kg)); clear hN hX hR; clear Kv))
  all_goals (cases a; cases b; simp_all)
theorem k_SameNode : Known Try.prog tau 15 (S2 dNode dNode fun a b => okB (decide (a = b))) := by
  refine known2 hmix tau_ok (ctx_cons k_SameView (ctx_cons k_SameItems (ctx_cons k_SameTolds ctx_nil))) (fn := Try.f15) (by kernel_rfl) [] (by kernel_rfl) _ _ _ fun a b hfit => ⟨rfl, [], ?_⟩
  clear hfit
  (repeat' (first | ((with_reducible refine body_intro ?_); (first | ((with_reducible refine seq_intro ?_ (fun Kv hN hX hR => ?_)); (next => exact rfl)) | ((with_reducible refine join_intro ?_ ?_); (next => exact rfl)) | (conv => whnf))) | with_reducible refine body_stop (fun Kv hN hX hR => ?_) | with_reducible refine Stop.mk ?_ | with_reducible refine Join.mk ⟨fun Kv hN hX hR => ?_, ?_⟩ | with_reducible refine DrawJ.each ?_ | with_reducible exact SubJ.self _ | with_reducible refine SubJ.of ?_ | with_reducible refine fill2_step (fun Kf hF => ?_) | with_reducible refine fill2_nil ?_ | with_reducible refine node2_step (fun Kg hG => ?_) | (with_reducible refine hF _ _ ?_; clear hF; clear Kf) | (with_reducible refine hG _ _ _ _ ?_; clear hG; clear Kg) | ((with_reducible refine seq_intro ?_ (fun Kv hN hX hR => ?_)); (next => exact rfl)) | ((with_reducible refine join_intro ?_ ?_); (next => exact rfl)) | (with_reducible refine hN _ ?_; (try (clear hG; clear Kg)); clear hN hX hR; clear Kv) | (with_reducible refine hX _ _ ?_; (try (clear hG; clear Kg)); clear hN hX hR; clear Kv) | (with_reducible refine hR _ ?_; (try (clear hG; clear Kg)); clear hN hX hR; clear Kv) | ((conv => whnf); first | with_reducible rfl | with_reducible exact True.intro | with_reducible intro _ | with_reducible refine And.intro ?_ ?_ | (with_reducible refine hN _ ?_; (try (clear hG; clear Kg)); clear hN hX hR; clear Kv) | (with_reducible refine hX _ _ ?_; (try (clear hG; clear Kg)); clear hN hX hR; clear Kv) | (with_reducible refine hR _ ?_; (try (clear hG; clear Kg)); clear hN hX hR; clear Kv) | with_reducible refine body_stop (fun Kv hN hX hR => ?_) | with_reducible refine Stop.mk ?_ | with_reducible refine Join.mk ⟨fun Kv hN hX hR => ?_, ?_⟩ | with_reducible refine DrawJ.each ?_ | with_reducible exact SubJ.self _ | with_reducible refine SubJ.of ?_ | with_reducible refine fill2_step (fun Kf hF => ?_) | with_reducible refine fill2_nil ?_ | with_reducible refine node2_step (fun Kg hG => ?_) | (with_reducible refine hF _ _ ?_; clear hF; clear Kf) | (with_reducible refine hG _ _ _ _ ?_; clear hG; clear Kg)))); all_goals (conv => whnf); all_goals (repeat ((try (clear hG; clear Kg)); clear hN hX hR; clear Kv))
  all_goals (rcases a with ⟨a1, ⟨a2, a3, a4⟩, a5, a6⟩; rcases b with ⟨b1, ⟨b2, b3, b4⟩, b5, b6⟩; simp_all)
def itI (k c : Int) : GItem := ⟨k, ⟨c, 1⟩, bits .and .i64 c 255, false⟩
theorem k_it : Known Try.prog tau 23 (S2 dInt dInt fun k c => .ok (.agg [.int .i64 k, .int .i64 c, .int .i64 1, .int .i64 (bits .and .i64 c 255), .bool false]) []) := by
  refine known2 hmix tau_ok ctx_nil (fn := Try.f23) (by kernel_rfl) [] (by kernel_rfl) _ _ _ fun k c hfit => ⟨rfl, [], ?_⟩
  clear hfit
  (repeat' (first | ((with_reducible refine body_intro ?_); (first | ((with_reducible refine seq_intro ?_ (fun Kv hN hX hR => ?_)); (next => exact rfl)) | ((with_reducible refine join_intro ?_ ?_); (next => exact rfl)) | (conv => whnf))) | with_reducible refine body_stop (fun Kv hN hX hR => ?_) | with_reducible refine Stop.mk ?_ | with_reducible refine Join.mk ⟨fun Kv hN hX hR => ?_, ?_⟩ | with_reducible refine DrawJ.each ?_ | with_reducible exact SubJ.self _ | with_reducible refine SubJ.of ?_ | with_reducible refine fill2_step (fun Kf hF => ?_) | with_reducible refine fill2_nil ?_ | with_reducible refine node2_step (fun Kg hG => ?_) | (with_reducible refine hF _ _ ?_; clear hF; clear Kf) | (with_reducible refine hG _ _ _ _ ?_; clear hG; clear Kg) | ((with_reducible refine seq_intro ?_ (fun Kv hN hX hR => ?_)); (next => exact rfl)) | ((with_reducible refine join_intro ?_ ?_); (next => exact rfl)) | (with_reducible refine hN _ ?_; (try (clear hG; clear Kg)); clear hN hX hR; clear Kv) | (with_reducible refine hX _ _ ?_; (try (clear hG; clear Kg)); clear hN hX hR; clear Kv) | (with_reducible refine hR _ ?_; (try (clear hG; clear Kg)); clear hN hX hR; clear Kv) | ((conv => whnf); first | with_reducible rfl | with_reducible exact True.intro | with_reducible intro _ | with_reducible refine And.intro ?_ ?_ | (with_reducible refine hN _ ?_; (try (clear hG; clear Kg)); clear hN hX hR; clear Kv) | (with_reducible refine hX _ _ ?_; (try (clear hG; clear Kg)); clear hN hX hR; clear Kv) | (with_reducible refine hR _ ?_; (try (clear hG; clear Kg)); clear hN hX hR; clear Kv) | with_reducible refine body_stop (fun Kv hN hX hR => ?_) | with_reducible refine Stop.mk ?_ | with_reducible refine Join.mk ⟨fun Kv hN hX hR => ?_, ?_⟩ | with_reducible refine DrawJ.each ?_ | with_reducible exact SubJ.self _ | with_reducible refine SubJ.of ?_ | with_reducible refine fill2_step (fun Kf hF => ?_) | with_reducible refine fill2_nil ?_ | with_reducible refine node2_step (fun Kg hG => ?_) | (with_reducible refine hF _ _ ?_; clear hF; clear Kf) | (with_reducible refine hG _ _ _ _ ?_; clear hG; clear Kg)))); all_goals (conv => whnf); all_goals (repeat ((try (clear hG; clear Kg)); clear hN hX hR; clear Kv))
  all_goals rfl
end Go.Proofs.Ytaapoiikbolgnaa

/- Chapter 11: awake; a view that hears nobody. -/
namespace Go.Proofs.Ytaapoiikbolgnaa
open Go.RowKit
def g11 : GView := ⟨100, [⟨101, 2⟩, ⟨200, 0⟩, ⟨90, 1⟩], [7, 150]⟩
theorem k_given : Known Try.prog tau 34 (S0 (.ok (.agg [.int .i64 100, .own 0, .own 1]) [.peers g11.peers, .ints g11.passive])) := by
  refine known0 hmix tau_ok ctx_nil (fn := Try.f34) (by kernel_rfl) [] (by kernel_rfl) _ fun hfit => ⟨rfl, [], ?_⟩
  clear hfit
  (repeat' (first | ((with_reducible refine body_intro ?_); (first | ((with_reducible refine seq_intro ?_ (fun Kv hN hX hR => ?_)); (next => exact rfl)) | ((with_reducible refine join_intro ?_ ?_); (next => exact rfl)) | (conv => whnf))) | with_reducible refine body_stop (fun Kv hN hX hR => ?_) | with_reducible refine Stop.mk ?_ | with_reducible refine Join.mk ⟨fun Kv hN hX hR => ?_, ?_⟩ | with_reducible refine DrawJ.each ?_ | with_reducible exact SubJ.self _ | with_reducible refine SubJ.of ?_ | with_reducible refine fill2_step (fun Kf hF => ?_) | with_reducible refine fill2_nil ?_ | with_reducible refine node2_step (fun Kg hG => ?_) | (with_reducible refine hF _ _ ?_; clear hF; clear Kf) | (with_reducible refine hG _ _ _ _ ?_; clear hG; clear Kg) | ((with_reducible refine seq_intro ?_ (fun Kv hN hX hR => ?_)); (next => exact rfl)) | ((with_reducible refine join_intro ?_ ?_); (next => exact rfl)) | (with_reducible refine hN _ ?_; (try (clear hG; clear Kg)); clear hN hX hR; clear Kv) | (with_reducible refine hX _ _ ?_; (try (clear hG; clear Kg)); clear hN hX hR; clear Kv) | (with_reducible refine hR _ ?_; (try (clear hG; clear Kg)); clear hN hX hR; clear Kv) | ((conv => whnf); first | with_reducible rfl | with_reducible exact True.intro | with_reducible intro _ | with_reducible refine And.intro ?_ ?_ | (with_reducible refine hN _ ?_; (try (clear hG; clear Kg)); clear hN hX hR; clear Kv) | (with_reducible refine hX _ _ ?_; (try (clear hG; clear Kg)); clear hN hX hR; clear Kv) | (with_reducible refine hR _ ?_; (try (clear hG; clear Kg)); clear hN hX hR; clear Kv) | with_reducible refine body_stop (fun Kv hN hX hR => ?_) | with_reducible refine Stop.mk ?_ | with_reducible refine Join.mk ⟨fun Kv hN hX hR => ?_, ?_⟩ | with_reducible refine DrawJ.each ?_ | with_reducible exact SubJ.self _ | with_reducible refine SubJ.of ?_ | with_reducible refine fill2_step (fun Kf hF => ?_) | with_reducible refine fill2_nil ?_ | with_reducible refine node2_step (fun Kg hG => ?_) | (with_reducible refine hF _ _ ?_; clear hF; clear Kf) | (with_reducible refine hG _ _ _ _ ?_; clear hG; clear Kg)))); all_goals (conv => whnf); all_goals (repeat ((try (clear hG; clear Kg)); clear hN hX hR; clear Kv))
  all_goals first
    | (refine Ob.mk ?_; decide)
    | rfl
    | trace_state
/-- The same, to be reckoned. -/
def withC11 (l : List Int) (x : Int) : List Int × Int := if passB l = true ∧ placeB x = true then (if hasI l x = true then (l, (0 : Int)) else if l.length = 16 then ([], 801) else (insP l x, 0)) else ([], 800)
def foldC : List Int → List Int → List Int
  | acc, [] => acc
  | acc, x :: l => foldC (withC11 acc x).1 l
theorem foldC_eq : ∀ (l acc : List Int), foldW acc l = foldC acc l
  | [], _ => rfl
  | x :: l, acc => by
    unfold foldW foldC
    rw [show withP acc x = withC11 acc x from withP_def acc x, foldC_eq l]
def tickC (v : GView) : GView × List Int × Int := if viewB v = true then ((⟨v.id, leftP v.peers, foldC v.passive (lostP v.peers)⟩ : GView), namesP (leftP v.peers) ++ foldC v.passive (lostP v.peers), (0 : Int)) else (viewZ, [], 1100)
theorem tickC_eq (v : GView) : tickV v = tickC v := by
  rw [tickV_def, foldC_eq]
  rfl
theorem aw11_a : tickV ⟨100, g11.peers, g11.passive⟩ = (⟨100, [⟨200, 1⟩, ⟨90, 2⟩], [7, 101, 150]⟩, [200, 90, 7, 101, 150], 0) := by rw [tickC_eq]; decide
theorem aw11_b : tickV ⟨256, [], []⟩ = (viewZ, [], 1100) := by rw [tickC_eq]; decide
set_option maxHeartbeats 1000000 in
theorem k_awake11 : Known Try.prog tau 31 (S0 (okB true)) := by
  refine known0 hmix tau_ok (ctx_cons k_ageTick (ctx_cons k_SameView (ctx_cons k_SameInts (ctx_cons k_Num (ctx_cons k_given ctx_nil))))) (fn := Try.f31) (by kernel_rfl) [] (by kernel_rfl) _ fun hfit => ⟨rfl, [], ?_⟩
  clear hfit
  (repeat' (first | ((with_reducible refine body_intro ?_); (first | ((with_reducible refine seq_intro ?_ (fun Kv hN hX hR => ?_)); (next => exact rfl)) | ((with_reducible refine join_intro ?_ ?_); (next => exact rfl)) | (conv => whnf))) | with_reducible refine body_stop (fun Kv hN hX hR => ?_) | with_reducible refine Stop.mk ?_ | with_reducible refine Join.mk ⟨fun Kv hN hX hR => ?_, ?_⟩ | with_reducible refine DrawJ.each ?_ | with_reducible exact SubJ.self _ | with_reducible refine SubJ.of ?_ | with_reducible refine fill2_step (fun Kf hF => ?_) | with_reducible refine fill2_nil ?_ | with_reducible refine node2_step (fun Kg hG => ?_) | (with_reducible refine hF _ _ ?_; clear hF; clear Kf) | (with_reducible refine hG _ _ _ _ ?_; clear hG; clear Kg) | ((with_reducible refine seq_intro ?_ (fun Kv hN hX hR => ?_)); (next => exact rfl)) | ((with_reducible refine join_intro ?_ ?_); (next => exact rfl)) | (with_reducible refine hN _ ?_; (try (clear hG; clear Kg)); clear hN hX hR; clear Kv) | (with_reducible refine hX _ _ ?_; (try (clear hG; clear Kg)); clear hN hX hR; clear Kv) | (with_reducible refine hR _ ?_; (try (clear hG; clear Kg)); clear hN hX hR; clear Kv) | ((conv => whnf); first | with_reducible rfl | with_reducible exact True.intro | with_reducible intro _ | with_reducible refine And.intro ?_ ?_ | (with_reducible refine hN _ ?_; (try (clear hG; clear Kg)); clear hN hX hR; clear Kv) | (with_reducible refine hX _ _ ?_; (try (clear hG; clear Kg)); clear hN hX hR; clear Kv) | (with_reducible refine hR _ ?_; (try (clear hG; clear Kg)); clear hN hX hR; clear Kv) | with_reducible refine body_stop (fun Kv hN hX hR => ?_) | with_reducible refine Stop.mk ?_ | with_reducible refine Join.mk ⟨fun Kv hN hX hR => ?_, ?_⟩ | with_reducible refine DrawJ.each ?_ | with_reducible exact SubJ.self _ | with_reducible refine SubJ.of ?_ | with_reducible refine fill2_step (fun Kf hF => ?_) | with_reducible refine fill2_nil ?_ | with_reducible refine node2_step (fun Kg hG => ?_) | (with_reducible refine hF _ _ ?_; clear hF; clear Kf) | (with_reducible refine hG _ _ _ _ ?_; clear hG; clear Kg)))); all_goals (conv => whnf); all_goals (repeat ((try (clear hG; clear Kg)); clear hN hX hR; clear Kv))
  all_goals (try simp only [aw11_a, aw11_b] at *)
  all_goals first
    | (refine Ob.mk ?_; decide)
    | rfl
    | (simp_all; done)
    | trace_state
set_option maxHeartbeats 2000000 in
theorem k_AgeAll : Known Try.prog tau 9 (S1 dView fun v => okB true) := by
  refine known1 hmix tau_ok (ctx_cons k_awake11 (ctx_cons k_ageTick (ctx_cons k_Num (ctx_cons k_given (ctx_cons k_refView ctx_nil))))) (fn := Try.f9) (by kernel_rfl) [] (by kernel_rfl) _ _ fun v hfit => ⟨rfl,
    [(5, invF (Nat × GView) [] (2 :: 4 :: 5 :: 6 :: 7 :: 11 :: 12 :: 13 :: 14 :: 15 :: 16 :: 17 :: 18 :: 19 :: 20 :: 21 :: 22 :: 23 :: 24 :: 25 :: 26 :: 27 :: 28 :: 29 :: 30 :: 31 :: 32 :: 33 :: 34 :: 35 :: 36 :: 37 :: []) [3] (fun g => g.1 ≤ 3 ∧ (g.1 = 0 → g.2 = v) ∧ (0 < g.1 → viewB v = true ∧ viewB g.2 = true ∧ g.2.id = v.id ∧ g.2.peers.length + g.2.passive.length = v.peers.length + v.passive.length ∧ ∀ p ∈ g.2.peers, (g.1 : Int) ≤ p.missed)) (fun g => match g with
      | (i, ⟨a, p, q⟩) => fun st => withS [(4, .int .i64 i)] (withB [(3, (25, [.int .i64 a, .row .any (.peers p), .row .any (.ints q)]))] st)) (fun g => 3 - g.1))], ?_⟩
  have hp : v.peers.length * 16 ≤ 140737488355328 := hfit.1.2.1
  have hp2 : v.passive.length * 8 ≤ 140737488355328 := hfit.1.2.2.1
  clear hfit
  (repeat' (first | ((with_reducible refine body_intro ?_); (first | ((with_reducible refine seq_intro ?_ (fun Kv hN hX hR => ?_)); (next => exact rfl)) | ((with_reducible refine join_intro ?_ ?_); (next => exact rfl)) | (conv => whnf))) | with_reducible refine body_stop (fun Kv hN hX hR => ?_) | with_reducible refine Stop.mk ?_ | with_reducible refine Join.mk ⟨fun Kv hN hX hR => ?_, ?_⟩ | with_reducible refine DrawJ.each ?_ | with_reducible exact SubJ.self _ | with_reducible refine SubJ.of ?_ | with_reducible refine fill2_step (fun Kf hF => ?_) | with_reducible refine fill2_nil ?_ | with_reducible refine node2_step (fun Kg hG => ?_) | (with_reducible refine hF _ _ ?_; clear hF; clear Kf) | (with_reducible refine hG _ _ _ _ ?_; clear hG; clear Kg) | ((with_reducible refine seq_intro ?_ (fun Kv hN hX hR => ?_)); (next => exact rfl)) | ((with_reducible refine join_intro ?_ ?_); (next => exact rfl)) | (with_reducible refine hN _ ?_; (try (clear hG; clear Kg)); clear hN hX hR; clear Kv) | (with_reducible refine hX _ _ ?_; (try (clear hG; clear Kg)); clear hN hX hR; clear Kv) | (with_reducible refine hR _ ?_; (try (clear hG; clear Kg)); clear hN hX hR; clear Kv) | ((conv => whnf); first | with_reducible rfl | with_reducible exact True.intro | with_reducible refine (fun (_ : (_ : Prop)) => ?_) | with_reducible refine And.intro ?_ ?_ | (with_reducible refine hN _ ?_; (try (clear hG; clear Kg)); clear hN hX hR; clear Kv) | (with_reducible refine hX _ _ ?_; (try (clear hG; clear Kg)); clear hN hX hR; clear Kv) | (with_reducible refine hR _ ?_; (try (clear hG; clear Kg)); clear hN hX hR; clear Kv) | with_reducible refine body_stop (fun Kv hN hX hR => ?_) | with_reducible refine Stop.mk ?_ | with_reducible refine Join.mk ⟨fun Kv hN hX hR => ?_, ?_⟩ | with_reducible refine DrawJ.each ?_ | with_reducible exact SubJ.self _ | with_reducible refine SubJ.of ?_ | with_reducible refine fill2_step (fun Kf hF => ?_) | with_reducible refine fill2_nil ?_ | with_reducible refine node2_step (fun Kg hG => ?_) | (with_reducible refine hF _ _ ?_; clear hF; clear Kf) | (with_reducible refine hG _ _ _ _ ?_; clear hG; clear Kg)))); all_goals (conv => whnf); all_goals (repeat ((try (clear hG; clear Kg)); clear hN hX hR; clear Kv))
  all_goals first
    | exact absurd (show (!true) = true by with_reducible assumption) (by decide)
    | (refine ⟨(0, ⟨v.id, v.peers, v.passive⟩), ⟨by show 0 ≤ 3; omega, fun _ => rfl, fun h => absurd h (Nat.lt_irrefl _)⟩, ?_⟩
       (repeat' (first | ((with_reducible refine body_intro ?_); (first | ((with_reducible refine seq_intro ?_ (fun Kv hN hX hR => ?_)); (next => exact rfl)) | ((with_reducible refine join_intro ?_ ?_); (next => exact rfl)) | (conv => whnf))) | with_reducible refine body_stop (fun Kv hN hX hR => ?_) | with_reducible refine Stop.mk ?_ | with_reducible refine Join.mk ⟨fun Kv hN hX hR => ?_, ?_⟩ | with_reducible refine DrawJ.each ?_ | with_reducible exact SubJ.self _ | with_reducible refine SubJ.of ?_ | with_reducible refine fill2_step (fun Kf hF => ?_) | with_reducible refine fill2_nil ?_ | with_reducible refine node2_step (fun Kg hG => ?_) | (with_reducible refine hF _ _ ?_; clear hF; clear Kf) | (with_reducible refine hG _ _ _ _ ?_; clear hG; clear Kg) | ((with_reducible refine seq_intro ?_ (fun Kv hN hX hR => ?_)); (next => exact rfl)) | ((with_reducible refine join_intro ?_ ?_); (next => exact rfl)) | (with_reducible refine hN _ ?_; (try (clear hG; clear Kg)); clear hN hX hR; clear Kv) | (with_reducible refine hX _ _ ?_; (try (clear hG; clear Kg)); clear hN hX hR; clear Kv) | (with_reducible refine hR _ ?_; (try (clear hG; clear Kg)); clear hN hX hR; clear Kv) | ((conv => whnf); first | with_reducible rfl | with_reducible exact True.intro | with_reducible intro _ | with_reducible refine And.intro ?_ ?_ | (with_reducible refine hN _ ?_; (try (clear hG; clear Kg)); clear hN hX hR; clear Kv) | (with_reducible refine hX _ _ ?_; (try (clear hG; clear Kg)); clear hN hX hR; clear Kv) | (with_reducible refine hR _ ?_; (try (clear hG; clear Kg)); clear hN hX hR; clear Kv) | with_reducible refine body_stop (fun Kv hN hX hR => ?_) | with_reducible refine Stop.mk ?_ | with_reducible refine Join.mk ⟨fun Kv hN hX hR => ?_, ?_⟩ | with_reducible refine DrawJ.each ?_ | with_reducible exact SubJ.self _ | with_reducible refine SubJ.of ?_ | with_reducible refine fill2_step (fun Kf hF => ?_) | with_reducible refine fill2_nil ?_ | with_reducible refine node2_step (fun Kg hG => ?_) | (with_reducible refine hF _ _ ?_; clear hF; clear Kf) | (with_reducible refine hG _ _ _ _ ?_; clear hG; clear Kg)))); all_goals (conv => whnf); all_goals (repeat ((try (clear hG; clear Kg)); clear hN hX hR; clear Kv))
       all_goals rfl)
    | (rintro ⟨i, ⟨a, p, q⟩⟩ ⟨hi, h0, h1⟩
       dsimp only at hi h0 h1
       cases hB : viewB ⟨a, p, q⟩ with
       | false =>
         have ht := congrArg (fun x : GView × List Int × Int => x.2.2) (tickV_no hB)
         have hi0 : i = 0 := Classical.byContradiction fun h => by
           have := (h1 (by omega)).2.1
           rw [hB] at this
           simp at this
         subst hi0
         have hv := h0 rfl
         (repeat' (first | ((with_reducible refine body_intro ?_); (first | ((with_reducible refine seq_intro ?_ (fun Kv hN hX hR => ?_)); (next => exact rfl)) | ((with_reducible refine join_intro ?_ ?_); (next => exact rfl)) | (conv => whnf))) | with_reducible refine body_stop (fun Kv hN hX hR => ?_) | with_reducible refine Stop.mk ?_ | with_reducible refine Join.mk ⟨fun Kv hN hX hR => ?_, ?_⟩ | with_reducible refine DrawJ.each ?_ | with_reducible exact SubJ.self _ | with_reducible refine SubJ.of ?_ | with_reducible refine fill2_step (fun Kf hF => ?_) | with_reducible refine fill2_nil ?_ | with_reducible refine node2_step (fun Kg hG => ?_) | (with_reducible refine hF _ _ ?_; clear hF; clear Kf) | (with_reducible refine hG _ _ _ _ ?_; clear hG; clear Kg) | ((with_reducible refine seq_intro ?_ (fun Kv hN hX hR => ?_)); (next => exact rfl)) | ((with_reducible refine join_intro ?_ ?_); (next => exact rfl)) | (with_reducible refine hN _ ?_; (try (clear hG; clear Kg)); clear hN hX hR; clear Kv) | (with_reducible refine hX _ _ ?_; (try (clear hG; clear Kg)); clear hN hX hR; clear Kv) | (with_reducible refine hR _ ?_; (try (clear hG; clear Kg)); clear hN hX hR; clear Kv) | ((conv => whnf); first | with_reducible rfl | with_reducible exact True.intro | with_reducible intro _ | with_reducible refine And.intro ?_ ?_ | (with_reducible refine hN _ ?_; (try (clear hG; clear Kg)); clear hN hX hR; clear Kv) | (with_reducible refine hX _ _ ?_; (try (clear hG; clear Kg)); clear hN hX hR; clear Kv) | (with_reducible refine hR _ ?_; (try (clear hG; clear Kg)); clear hN hX hR; clear Kv) | with_reducible refine body_stop (fun Kv hN hX hR => ?_) | with_reducible refine Stop.mk ?_ | with_reducible refine Join.mk ⟨fun Kv hN hX hR => ?_, ?_⟩ | with_reducible refine DrawJ.each ?_ | with_reducible exact SubJ.self _ | with_reducible refine SubJ.of ?_ | with_reducible refine fill2_step (fun Kf hF => ?_) | with_reducible refine fill2_nil ?_ | with_reducible refine node2_step (fun Kg hG => ?_) | (with_reducible refine hF _ _ ?_; clear hF; clear Kf) | (with_reducible refine hG _ _ _ _ ?_; clear hG; clear Kg)))); all_goals (conv => whnf); all_goals (repeat ((try (clear hG; clear Kg)); clear hN hX hR; clear Kv))
         all_goals first
           | exact absurd (show decide (((0 : Nat) : Int) < 3) = false by with_reducible assumption) (by decide)
           | (rw [← hv, hB]; rfl)
           | (exfalso
              have h3 : (!decide ((tickV ⟨a, p, q⟩).2.2 = 0)) = false := by with_reducible assumption
              rw [show (tickV ⟨a, p, q⟩).2.2 = 1100 from ht] at h3
              simp at h3
              done)
           | trace_state
       | true =>
         obtain ⟨t1, t2, t3, t4, t5, t6, t7, _⟩ := tick_ok hB
         have t5l := congrArg List.length t5
         rw [List.length_append, namesP_len] at t5l
         have t3l := congrArg List.length t3
         have tot : p.length + q.length = v.peers.length + v.passive.length ∧ viewB v = true ∧ a = v.id := by
           rcases Nat.eq_zero_or_pos i with h | h
           · have := h0 h
             rw [← this]
             exact ⟨rfl, hB, rfl⟩
           · have := h1 h
             exact ⟨this.2.2.2.1, this.1, this.2.2.1⟩
         have w1 : IntKind.i64.wrap ((v.peers.length : Int) + (v.passive.length : Int)) = ((v.peers.length + v.passive.length : Nat) : Int) := by rw [wrapI (by omega) (by omega)]; omega
         (repeat' (first | ((with_reducible refine body_intro ?_); (first | ((with_reducible refine seq_intro ?_ (fun Kv hN hX hR => ?_)); (next => exact rfl)) | ((with_reducible refine join_intro ?_ ?_); (next => exact rfl)) | (conv => whnf))) | with_reducible refine body_stop (fun Kv hN hX hR => ?_) | with_reducible refine Stop.mk ?_ | with_reducible refine Join.mk ⟨fun Kv hN hX hR => ?_, ?_⟩ | with_reducible refine DrawJ.each ?_ | with_reducible exact SubJ.self _ | with_reducible refine SubJ.of ?_ | with_reducible refine fill2_step (fun Kf hF => ?_) | with_reducible refine fill2_nil ?_ | with_reducible refine node2_step (fun Kg hG => ?_) | (with_reducible refine hF _ _ ?_; clear hF; clear Kf) | (with_reducible refine hG _ _ _ _ ?_; clear hG; clear Kg) | ((with_reducible refine seq_intro ?_ (fun Kv hN hX hR => ?_)); (next => exact rfl)) | ((with_reducible refine join_intro ?_ ?_); (next => exact rfl)) | (with_reducible refine hN _ ?_; (try (clear hG; clear Kg)); clear hN hX hR; clear Kv) | (with_reducible refine hX _ _ ?_; (try (clear hG; clear Kg)); clear hN hX hR; clear Kv) | (with_reducible refine hR _ ?_; (try (clear hG; clear Kg)); clear hN hX hR; clear Kv) | ((conv => whnf); first | with_reducible rfl | with_reducible exact True.intro | with_reducible intro _ | with_reducible refine And.intro ?_ ?_ | (with_reducible refine hN _ ?_; (try (clear hG; clear Kg)); clear hN hX hR; clear Kv) | (with_reducible refine hX _ _ ?_; (try (clear hG; clear Kg)); clear hN hX hR; clear Kv) | (with_reducible refine hR _ ?_; (try (clear hG; clear Kg)); clear hN hX hR; clear Kv) | with_reducible refine body_stop (fun Kv hN hX hR => ?_) | with_reducible refine Stop.mk ?_ | with_reducible refine Join.mk ⟨fun Kv hN hX hR => ?_, ?_⟩ | with_reducible refine DrawJ.each ?_ | with_reducible exact SubJ.self _ | with_reducible refine SubJ.of ?_ | with_reducible refine fill2_step (fun Kf hF => ?_) | with_reducible refine fill2_nil ?_ | with_reducible refine node2_step (fun Kg hG => ?_) | (with_reducible refine hF _ _ ?_; clear hF; clear Kf) | (with_reducible refine hG _ _ _ _ ?_; clear hG; clear Kg)))); all_goals (conv => whnf); all_goals (repeat ((try (clear hG; clear Kg)); clear hN hX hR; clear Kv))
         all_goals first
           | (exfalso
              have h3 : (!decide ((tickV ⟨a, p, q⟩).2.2 = 0)) = true := by with_reducible assumption
              rw [t6] at h3
              simp at h3
              done)
           | (exfalso
              have h3 : (!decide (((tickV ⟨a, p, q⟩).2.1.length : Int) = IntKind.i64.wrap ((v.peers.length : Int) + (v.passive.length : Int)))) = true := by with_reducible assumption
              rw [w1] at h3
              simp only [Bool.not_eq_true', decide_eq_false_iff_not] at h3
              apply h3
              have : (tickV ⟨a, p, q⟩).2.1.length = v.peers.length + v.passive.length := by
                rw [t5l, ← t3l, t7]
                exact tot.1
              rw [this]
              done)
           | (have h3 := of_decide_eq_true (show decide ((i : Int) < 3) = true by with_reducible assumption)
              refine ⟨(i + 1, ⟨(tickV ⟨a, p, q⟩).1.id, (tickV ⟨a, p, q⟩).1.peers, (tickV ⟨a, p, q⟩).1.passive⟩), ⟨by show i + 1 ≤ 3; omega, fun h => absurd h (by show ¬ i + 1 = 0; omega), fun _ => ⟨tot.2.1, t1, by show (tickV ⟨a, p, q⟩).1.id = v.id; rw [t2]; exact tot.2.2, by show (tickV ⟨a, p, q⟩).1.peers.length + (tickV ⟨a, p, q⟩).1.passive.length = _; rw [t7]; exact tot.1, fun x hx => ?_⟩⟩, by show 3 - (i + 1) < 3 - i; omega, ?_⟩
              · have hx : x ∈ (tickV ⟨a, p, q⟩).1.peers := hx
                rw [t3] at hx
                obtain ⟨y, hy, _, rfl⟩ := mem_leftP.1 hx
                show ((i + 1 : Nat) : Int) ≤ y.missed + 1
                rcases Nat.eq_zero_or_pos i with h | h
                · have := (peerB_iff.1 ((peers_iff.1 (viewB_iff2.1 hB).1).2.2.2 y hy)).2.1
                  omega
                · have := (h1 h).2.2.2.2 y hy
                  omega
              · (repeat' (first | ((with_reducible refine body_intro ?_); (first | ((with_reducible refine seq_intro ?_ (fun Kv hN hX hR => ?_)); (next => exact rfl)) | ((with_reducible refine join_intro ?_ ?_); (next => exact rfl)) | (conv => whnf))) | with_reducible refine body_stop (fun Kv hN hX hR => ?_) | with_reducible refine Stop.mk ?_ | with_reducible refine Join.mk ⟨fun Kv hN hX hR => ?_, ?_⟩ | with_reducible refine DrawJ.each ?_ | with_reducible exact SubJ.self _ | with_reducible refine SubJ.of ?_ | with_reducible refine fill2_step (fun Kf hF => ?_) | with_reducible refine fill2_nil ?_ | with_reducible refine node2_step (fun Kg hG => ?_) | (with_reducible refine hF _ _ ?_; clear hF; clear Kf) | (with_reducible refine hG _ _ _ _ ?_; clear hG; clear Kg) | ((with_reducible refine seq_intro ?_ (fun Kv hN hX hR => ?_)); (next => exact rfl)) | ((with_reducible refine join_intro ?_ ?_); (next => exact rfl)) | (with_reducible refine hN _ ?_; (try (clear hG; clear Kg)); clear hN hX hR; clear Kv) | (with_reducible refine hX _ _ ?_; (try (clear hG; clear Kg)); clear hN hX hR; clear Kv) | (with_reducible refine hR _ ?_; (try (clear hG; clear Kg)); clear hN hX hR; clear Kv) | ((conv => whnf); first | with_reducible rfl | with_reducible exact True.intro | with_reducible intro _ | with_reducible refine And.intro ?_ ?_ | (with_reducible refine hN _ ?_; (try (clear hG; clear Kg)); clear hN hX hR; clear Kv) | (with_reducible refine hX _ _ ?_; (try (clear hG; clear Kg)); clear hN hX hR; clear Kv) | (with_reducible refine hR _ ?_; (try (clear hG; clear Kg)); clear hN hX hR; clear Kv) | with_reducible refine body_stop (fun Kv hN hX hR => ?_) | with_reducible refine Stop.mk ?_ | with_reducible refine Join.mk ⟨fun Kv hN hX hR => ?_, ?_⟩ | with_reducible refine DrawJ.each ?_ | with_reducible exact SubJ.self _ | with_reducible refine SubJ.of ?_ | with_reducible refine fill2_step (fun Kf hF => ?_) | with_reducible refine fill2_nil ?_ | with_reducible refine node2_step (fun Kg hG => ?_) | (with_reducible refine hF _ _ ?_; clear hF; clear Kf) | (with_reducible refine hG _ _ _ _ ?_; clear hG; clear Kg)))); all_goals (conv => whnf); all_goals (repeat ((try (clear hG; clear Kg)); clear hN hX hR; clear Kv))
                all_goals first
                  | exact wrapI (by omega) (by omega)
                  | rfl)
           | (have h3 := of_decide_eq_false (show decide ((i : Int) < 3) = false by with_reducible assumption)
              have hi3 : i = 3 := by omega
              subst hi3
              have hz : p = [] := by
                cases p with
                | nil => rfl
                | cons x p =>
                  have e1 := (h1 (by omega)).2.2.2.2 x List.mem_cons_self
                  have e2 := (peerB_iff.1 ((peers_iff.1 (viewB_iff2.1 hB).1).2.2.2 x List.mem_cons_self)).2.2.1
                  omega
              subst hz
              first
                | exact decide_eq_true tot.2.2
                | (have h4 : decide ((([] : List GPeer).length : Int) = 0) = false := by with_reducible assumption
                   exact absurd h4 (by decide))
                | (have h4 : decide (a = v.id) = false := by with_reducible assumption
                   rw [tot.2.2] at h4
                   simp at h4
                   done)
                | (have h4 : decide ((q.length : Int) = IntKind.i64.wrap ((v.peers.length : Int) + (v.passive.length : Int))) = false := by with_reducible assumption
                   have h5 := tot.1
                   rw [w1] at h4
                   simp at h4 h5
                   omega)
                | decide
                | trace_state)
           | trace_state)
    | trace_state
end Go.Proofs.Ytaapoiikbolgnaa

/- Plain: a view's turn: whom it greets; marks. -/
namespace Go.Proofs.Ytaapoiikbolgnaa
open Go.RowKit
theorem place_iff {x : Int} : placeB x = true ↔ 0 ≤ x ∧ x < 256 := by simp [placeB]
def marksN (n : Nat) (l : List Int) : List Bool := (List.range n).map fun (j : Nat) => decide ((j : Int) ∈ l)
theorem marksN_len (n : Nat) (l : List Int) : (marksN n l).length = n := by simp [marksN]
theorem marksN_nil (n : Nat) : marksN n [] = List.replicate n false := by
  refine List.ext_getElem (by simp [marksN]) fun i h1 h2 => ?_
  simp [marksN]
theorem marksN_get {n : Nat} {l : List Int} {x : Int} (h : 0 ≤ x) (h2 : x < n) : (marksN n l).getD x.toNat false = decide (x ∈ l) := by
  have hx : x.toNat < n := by omega
  have e : ((x.toNat : Nat) : Int) = x := by omega
  unfold marksN
  rw [List.getD_eq_getElem?_getD, List.getElem?_map, List.getElem?_range hx]
  show decide (((x.toNat : Nat) : Int) ∈ l) = _
  rw [e]
theorem marksN_set {n : Nat} {l : List Int} {x : Int} (h : 0 ≤ x) (h3 : x < n) : (marksN n l).set x.toNat true = marksN n (l ++ [x]) := by
  refine List.ext_getElem (by simp [marksN]) fun i h1 h2 => ?_
  rw [List.getElem_set]
  unfold marksN
  simp only [List.getElem_map, List.getElem_range, List.mem_append, List.mem_singleton]
  split
  · rename_i hi
    have : (i : Int) = x := by omega
    simp [this]
  · rename_i hi
    have : ¬ (i : Int) = x := by omega
    simp [this]
def marksL (l : List Int) : List Bool := marksN 256 l
theorem marksL_len (l : List Int) : (marksL l).length = 256 := marksN_len 256 l
theorem marksL_nil : marksL [] = List.replicate 256 false := marksN_nil 256
theorem marksL_get {l : List Int} {x : Int} (h : placeB x = true) : (marksL l).getD x.toNat false = decide (x ∈ l) := marksN_get (place_iff.1 h).1 (place_iff.1 h).2
theorem marksL_set {l : List Int} {x : Int} (h : placeB x = true) : (marksL l).set x.toNat true = marksL (l ++ [x]) := marksN_set (place_iff.1 h).1 (place_iff.1 h).2
theorem rising_ne {l : List Int} (h : Rising l) : l.Pairwise (· ≠ ·) := by
  rw [List.pairwise_iff_getElem]
  intro i j hi hj hij
  have := h i j hij hj
  rw [List.getD_eq_getElem?_getD, List.getD_eq_getElem?_getD, List.getElem?_eq_getElem hi, List.getElem?_eq_getElem hj] at this
  simp only [Option.getD_some] at this
  omega
theorem ts_ok {v : GView} (h : viewB v = true) : (tickV v).2.1.length = v.peers.length + v.passive.length ∧ (tickV v).2.1.length ≤ 16 ∧ (tickV v).2.1.Pairwise (· ≠ ·) ∧ (∀ x ∈ (tickV v).2.1, placeB x = true ∧ x ≠ v.id) ∧ (∀ p ∈ v.peers, p.id ∈ (tickV v).2.1) ∧ ∀ x ∈ v.passive, x ∈ (tickV v).2.1 := by
  obtain ⟨t1, t2, t3, t4, t5, t6, t7, t8⟩ := tick_ok h
  have hw := viewB_iff2.1 t1
  have hp := peers_iff.1 hw.1
  have ha := passB_iff.1 hw.2.1
  have hl : (tickV v).2.1.length = v.peers.length + v.passive.length := by
    rw [t5, List.length_append, namesP_len, ← t3, t7]
  have hv := (viewB_iff.1 h).2.2.1
  rw [t3] at hw
  refine ⟨hl, by omega, ?_, ?_, ?_, ?_⟩
  · rw [t5, List.pairwise_append]
    refine ⟨names_nodup hw.1, rising_ne ha.2.1, fun x hx y hy e => ?_⟩
    subst e
    exact (hw.2.2.2 x hy).2 hx
  · intro x hx
    rw [t5] at hx
    rcases List.mem_append.1 hx with hx | hx
    · obtain ⟨p, h1, rfl⟩ := mem_namesP.1 hx
      rw [← t3] at h1
      have hq := peerB_iff.1 (hp.2.2.2 p h1)
      refine ⟨hq.1, fun e => ?_⟩
      have := hq.2.2.2
      rw [e, t2] at this
      have hid := hp.1
      rw [t2, place_iff] at hid
      rw [farI_eq hid.1 (by omega) hid.1 (by omega)] at this
      omega
    · refine ⟨ha.2.2 x hx, fun e => (hw.2.2.2 x hx).1 (by rw [e, t2])⟩
  · intro p hp
    rw [t5, List.mem_append]
    by_cases hm : p.missed + 1 = 3
    · exact .inr ((t8 _).2 (.inr (mem_lostP.2 ⟨p, hp, hm, rfl⟩)))
    · exact .inl (mem_namesP.2 ⟨_, mem_leftP.2 ⟨p, hp, hm, rfl⟩, rfl⟩)
  · intro x hx
    rw [t5, List.mem_append]
    exact .inr ((t8 _).2 (.inl hx))
theorem take_get {l : List Int} {i : Nat} (hn : l.Pairwise (· ≠ ·)) (h : i < l.length) : ¬ l.getD i 0 ∈ l.take i := by
  intro hm
  obtain ⟨j, hj, e⟩ := List.mem_iff_getElem.1 hm
  rw [List.length_take] at hj
  have hij : j < i := by omega
  rw [List.getElem_take] at e
  have := (List.pairwise_iff_getElem.1 hn) j i (by omega) h hij
  rw [List.getD_eq_getElem?_getD, List.getElem?_eq_getElem h] at e
  exact this e
theorem take_app {l : List Int} {i : Nat} (h : i < l.length) : l.take i ++ [l.getD i 0] = l.take (i + 1) := by
  rw [List.take_succ_eq_append_getElem h, List.getD_eq_getElem?_getD, List.getElem?_eq_getElem h]
  rfl
end Go.Proofs.Ytaapoiikbolgnaa

/- Chapter 11: a view that ticks keeps whom it knows. -/
namespace Go.Proofs.Ytaapoiikbolgnaa
open Go.RowKit
set_option maxHeartbeats 4000000 in
theorem k_AgeKeeps : Known Try.prog tau 8 (S1 dView fun v => okB true) := by
  refine known1 hmix tau_ok (ctx_cons k_awake11 (ctx_cons k_ageTick (ctx_cons k_SameView (ctx_cons k_Num (ctx_cons k_refPlace ctx_nil))))) (fn := Try.f8) (by kernel_rfl) [] (by kernel_rfl) _ _ fun v hfit => ⟨rfl,
    [(10, invX Nat [2, 7, 51, 52, 53, 54, 55, 56, 57, 58, 59, 60, 61, 62, 63, 64, 65, 66, 67, 68, 69, 70, 71, 72, 73, 74, 75] [6] (fun i => i ≤ (tickV v).2.1.length) (fun i => fun st => withS [(7, .int .i64 i)] (withR [(6, .own (.bools (marksL ((tickV v).2.1.take i))))] st)) (fun i => (tickV v).2.1.length - i)),
     (16, invX Nat [2, 8, 76, 77, 78, 79, 80, 81, 82, 83, 84, 85, 86, 87, 88, 89, 90, 91] [] (fun i => i ≤ v.peers.length) (fun i => withS [(8, .int .i64 i)]) (fun i => v.peers.length - i)),
     (21, invX Nat [2, 9, 92, 93, 94, 95, 96, 97, 98, 99, 100, 101, 102, 103, 104, 105, 106] [] (fun i => i ≤ v.passive.length) (fun i => withS [(9, .int .i64 i)]) (fun i => v.passive.length - i))], ?_⟩
  have hp : v.peers.length * 16 ≤ 140737488355328 := hfit.1.2.1
  have hp2 : v.passive.length * 8 ≤ 140737488355328 := hfit.1.2.2.1
  clear hfit
  have e0 := marksL_nil
  cases hB : viewB v with
  | false =>
    have ht := tickV_no hB
    (repeat' (first | ((with_reducible refine body_intro ?_); (first | ((with_reducible refine seq_intro ?_ (fun Kv hN hX hR => ?_)); (next => exact rfl)) | ((with_reducible refine join_intro ?_ ?_); (next => exact rfl)) | (conv => whnf))) | with_reducible refine body_stop (fun Kv hN hX hR => ?_) | with_reducible refine Stop.mk ?_ | with_reducible refine Join.mk ⟨fun Kv hN hX hR => ?_, ?_⟩ | with_reducible refine DrawJ.each ?_ | with_reducible exact SubJ.self _ | with_reducible refine SubJ.of ?_ | with_reducible refine fill2_step (fun Kf hF => ?_) | with_reducible refine fill2_nil ?_ | with_reducible refine node2_step (fun Kg hG => ?_) | (with_reducible refine hF _ _ ?_; clear hF; clear Kf) | (with_reducible refine hG _ _ _ _ ?_; clear hG; clear Kg) | ((with_reducible refine seq_intro ?_ (fun Kv hN hX hR => ?_)); (next => exact rfl)) | ((with_reducible refine join_intro ?_ ?_); (next => exact rfl)) | (with_reducible refine hN _ ?_; (try (clear hG; clear Kg)); clear hN hX hR; clear Kv) | (with_reducible refine hX _ _ ?_; (try (clear hG; clear Kg)); clear hN hX hR; clear Kv) | (with_reducible refine hR _ ?_; (try (clear hG; clear Kg)); clear hN hX hR; clear Kv) | ((conv => whnf); first | with_reducible rfl | with_reducible exact True.intro | with_reducible refine (fun (_ : (_ : Prop)) => ?_) | with_reducible refine And.intro ?_ ?_ | (with_reducible refine hN _ ?_; (try (clear hG; clear Kg)); clear hN hX hR; clear Kv) | (with_reducible refine hX _ _ ?_; (try (clear hG; clear Kg)); clear hN hX hR; clear Kv) | (with_reducible refine hR _ ?_; (try (clear hG; clear Kg)); clear hN hX hR; clear Kv) | with_reducible refine body_stop (fun Kv hN hX hR => ?_) | with_reducible refine Stop.mk ?_ | with_reducible refine Join.mk ⟨fun Kv hN hX hR => ?_, ?_⟩ | with_reducible refine DrawJ.each ?_ | with_reducible exact SubJ.self _ | with_reducible refine SubJ.of ?_ | with_reducible refine fill2_step (fun Kf hF => ?_) | with_reducible refine fill2_nil ?_ | with_reducible refine node2_step (fun Kg hG => ?_) | (with_reducible refine hF _ _ ?_; clear hF; clear Kf) | (with_reducible refine hG _ _ _ _ ?_; clear hG; clear Kg)))); all_goals (conv => whnf); all_goals (repeat ((try (clear hG; clear Kg)); clear hN hX hR; clear Kv))
    all_goals first
      | exact absurd (show (!true) = true by with_reducible assumption) (by decide)
      | (have h3 : (!decide ((tickV ⟨v.id, v.peers, v.passive⟩).2.2 = 0)) = false := by with_reducible assumption
         rw [show tickV ⟨v.id, v.peers, v.passive⟩ = (viewZ, [], 1100) from ht] at h3
         exact absurd h3 (by decide))
      | (simp only [etaView, ht] at *
         first
           | done
           | rfl
           | (exfalso; rename_i h; revert h; decide))
      | trace_state
  | true =>
    obtain ⟨q1, q2, q3, q4, q5, q6⟩ := ts_ok hB
    obtain ⟨t1, t2, t3, t4, t5, t6, t7, t8⟩ := tick_ok hB
    have w1 : IntKind.i64.wrap ((v.peers.length : Int) + (v.passive.length : Int)) = ((v.peers.length + v.passive.length : Nat) : Int) := by rw [wrapI (by omega) (by omega)]; omega
    have w2 : IntKind.i64.wrap (((tickV v).1.peers.length : Int) + ((tickV v).1.passive.length : Int)) = ((v.peers.length + v.passive.length : Nat) : Int) := by rw [wrapI (by omega) (by omega)]; omega
    (repeat' (first | ((with_reducible refine body_intro ?_); (first | ((with_reducible refine seq_intro ?_ (fun Kv hN hX hR => ?_)); (next => exact rfl)) | ((with_reducible refine join_intro ?_ ?_); (next => exact rfl)) | (conv => whnf))) | with_reducible refine body_stop (fun Kv hN hX hR => ?_) | with_reducible refine Stop.mk ?_ | with_reducible refine Join.mk ⟨fun Kv hN hX hR => ?_, ?_⟩ | with_reducible refine DrawJ.each ?_ | with_reducible exact SubJ.self _ | with_reducible refine SubJ.of ?_ | with_reducible refine fill2_step (fun Kf hF => ?_) | with_reducible refine fill2_nil ?_ | with_reducible refine node2_step (fun Kg hG => ?_) | (with_reducible refine hF _ _ ?_; clear hF; clear Kf) | (with_reducible refine hG _ _ _ _ ?_; clear hG; clear Kg) | ((with_reducible refine seq_intro ?_ (fun Kv hN hX hR => ?_)); (next => exact rfl)) | ((with_reducible refine join_intro ?_ ?_); (next => exact rfl)) | (with_reducible refine hN _ ?_; (try (clear hG; clear Kg)); clear hN hX hR; clear Kv) | (with_reducible refine hX _ _ ?_; (try (clear hG; clear Kg)); clear hN hX hR; clear Kv) | (with_reducible refine hR _ ?_; (try (clear hG; clear Kg)); clear hN hX hR; clear Kv) | ((conv => whnf); first | with_reducible rfl | with_reducible exact True.intro | with_reducible refine (fun (_ : (_ : Prop)) => ?_) | with_reducible refine And.intro ?_ ?_ | (with_reducible refine hN _ ?_; (try (clear hG; clear Kg)); clear hN hX hR; clear Kv) | (with_reducible refine hX _ _ ?_; (try (clear hG; clear Kg)); clear hN hX hR; clear Kv) | (with_reducible refine hR _ ?_; (try (clear hG; clear Kg)); clear hN hX hR; clear Kv) | with_reducible refine body_stop (fun Kv hN hX hR => ?_) | with_reducible refine Stop.mk ?_ | with_reducible refine Join.mk ⟨fun Kv hN hX hR => ?_, ?_⟩ | with_reducible refine DrawJ.each ?_ | with_reducible exact SubJ.self _ | with_reducible refine SubJ.of ?_ | with_reducible refine fill2_step (fun Kf hF => ?_) | with_reducible refine fill2_nil ?_ | with_reducible refine node2_step (fun Kg hG => ?_) | (with_reducible refine hF _ _ ?_; clear hF; clear Kf) | (with_reducible refine hG _ _ _ _ ?_; clear hG; clear Kg)))); all_goals (conv => whnf); all_goals (repeat ((try (clear hG; clear Kg)); clear hN hX hR; clear Kv))
    all_goals first
      | exact absurd (show (!true) = true by with_reducible assumption) (by decide)
      | (have h3 : (!decide ((tickV ⟨v.id, v.peers, v.passive⟩).2.2 = 0)) = true := by with_reducible assumption
         rw [show (tickV ⟨v.id, v.peers, v.passive⟩).2.2 = 0 from t6] at h3
         exact absurd h3 (by decide))
      | (refine ⟨0, Nat.zero_le _, ?_⟩
         (repeat' (first | ((with_reducible refine body_intro ?_); (first | ((with_reducible refine seq_intro ?_ (fun Kv hN hX hR => ?_)); (next => exact rfl)) | ((with_reducible refine join_intro ?_ ?_); (next => exact rfl)) | (conv => whnf))) | with_reducible refine body_stop (fun Kv hN hX hR => ?_) | with_reducible refine Stop.mk ?_ | with_reducible refine Join.mk ⟨fun Kv hN hX hR => ?_, ?_⟩ | with_reducible refine DrawJ.each ?_ | with_reducible exact SubJ.self _ | with_reducible refine SubJ.of ?_ | with_reducible refine fill2_step (fun Kf hF => ?_) | with_reducible refine fill2_nil ?_ | with_reducible refine node2_step (fun Kg hG => ?_) | (with_reducible refine hF _ _ ?_; clear hF; clear Kf) | (with_reducible refine hG _ _ _ _ ?_; clear hG; clear Kg) | ((with_reducible refine seq_intro ?_ (fun Kv hN hX hR => ?_)); (next => exact rfl)) | ((with_reducible refine join_intro ?_ ?_); (next => exact rfl)) | (with_reducible refine hN _ ?_; (try (clear hG; clear Kg)); clear hN hX hR; clear Kv) | (with_reducible refine hX _ _ ?_; (try (clear hG; clear Kg)); clear hN hX hR; clear Kv) | (with_reducible refine hR _ ?_; (try (clear hG; clear Kg)); clear hN hX hR; clear Kv) | ((conv => whnf); first | with_reducible rfl | with_reducible exact True.intro | with_reducible intro _ | with_reducible refine And.intro ?_ ?_ | (with_reducible refine hN _ ?_; (try (clear hG; clear Kg)); clear hN hX hR; clear Kv) | (with_reducible refine hX _ _ ?_; (try (clear hG; clear Kg)); clear hN hX hR; clear Kv) | (with_reducible refine hR _ ?_; (try (clear hG; clear Kg)); clear hN hX hR; clear Kv) | with_reducible refine body_stop (fun Kv hN hX hR => ?_) | with_reducible refine Stop.mk ?_ | with_reducible refine Join.mk ⟨fun Kv hN hX hR => ?_, ?_⟩ | with_reducible refine DrawJ.each ?_ | with_reducible exact SubJ.self _ | with_reducible refine SubJ.of ?_ | with_reducible refine fill2_step (fun Kf hF => ?_) | with_reducible refine fill2_nil ?_ | with_reducible refine node2_step (fun Kg hG => ?_) | (with_reducible refine hF _ _ ?_; clear hF; clear Kf) | (with_reducible refine hG _ _ _ _ ?_; clear hG; clear Kg)))); all_goals (conv => whnf); all_goals (repeat ((try (clear hG; clear Kg)); clear hN hX hR; clear Kv))
         all_goals first
           | exact congrArg Rw.bools e0.symm
           | rfl
           | trace_state)
      | (exfalso
         have h4 : (!decide (IntKind.i64.wrap (((tickV ⟨v.id, v.peers, v.passive⟩).1.peers.length : Int) + ((tickV ⟨v.id, v.peers, v.passive⟩).1.passive.length : Int)) = ((tickV ⟨v.id, v.peers, v.passive⟩).2.1.length : Nat))) = true := by with_reducible assumption
         have h5 := of_decide_eq_false (nf h4)
         apply h5
         show IntKind.i64.wrap (((tickV v).1.peers.length : Int) + ((tickV v).1.passive.length : Int)) = ((tickV v).2.1.length : Nat)
         rw [w2, q1]
         done)
      | (exfalso
         have h4 : (!decide (((tickV ⟨v.id, v.peers, v.passive⟩).2.1.length : Nat) = IntKind.i64.wrap ((v.peers.length : Int) + (v.passive.length : Int)))) = true := by with_reducible assumption
         have h5 := of_decide_eq_false (nf h4)
         apply h5
         show ((tickV v).2.1.length : Int) = _
         rw [w1, q1]
         done)
      | (with_reducible intro i hi
         (repeat' (first | ((with_reducible refine body_intro ?_); (first | ((with_reducible refine seq_intro ?_ (fun Kv hN hX hR => ?_)); (next => exact rfl)) | ((with_reducible refine join_intro ?_ ?_); (next => exact rfl)) | (conv => whnf))) | with_reducible refine body_stop (fun Kv hN hX hR => ?_) | with_reducible refine Stop.mk ?_ | with_reducible refine Join.mk ⟨fun Kv hN hX hR => ?_, ?_⟩ | with_reducible refine DrawJ.each ?_ | with_reducible exact SubJ.self _ | with_reducible refine SubJ.of ?_ | with_reducible refine fill2_step (fun Kf hF => ?_) | with_reducible refine fill2_nil ?_ | with_reducible refine node2_step (fun Kg hG => ?_) | (with_reducible refine hF _ _ ?_; clear hF; clear Kf) | (with_reducible refine hG _ _ _ _ ?_; clear hG; clear Kg) | ((with_reducible refine seq_intro ?_ (fun Kv hN hX hR => ?_)); (next => exact rfl)) | ((with_reducible refine join_intro ?_ ?_); (next => exact rfl)) | (with_reducible refine hN _ ?_; (try (clear hG; clear Kg)); clear hN hX hR; clear Kv) | (with_reducible refine hX _ _ ?_; (try (clear hG; clear Kg)); clear hN hX hR; clear Kv) | (with_reducible refine hR _ ?_; (try (clear hG; clear Kg)); clear hN hX hR; clear Kv) | ((conv => whnf); first | with_reducible rfl | with_reducible exact True.intro | with_reducible refine (fun (_ : (_ : Prop)) => ?_) | with_reducible refine And.intro ?_ ?_ | (with_reducible refine hN _ ?_; (try (clear hG; clear Kg)); clear hN hX hR; clear Kv) | (with_reducible refine hX _ _ ?_; (try (clear hG; clear Kg)); clear hN hX hR; clear Kv) | (with_reducible refine hR _ ?_; (try (clear hG; clear Kg)); clear hN hX hR; clear Kv) | with_reducible refine body_stop (fun Kv hN hX hR => ?_) | with_reducible refine Stop.mk ?_ | with_reducible refine Join.mk ⟨fun Kv hN hX hR => ?_, ?_⟩ | with_reducible refine DrawJ.each ?_ | with_reducible exact SubJ.self _ | with_reducible refine SubJ.of ?_ | with_reducible refine fill2_step (fun Kf hF => ?_) | with_reducible refine fill2_nil ?_ | with_reducible refine node2_step (fun Kg hG => ?_) | (with_reducible refine hF _ _ ?_; clear hF; clear Kf) | (with_reducible refine hG _ _ _ _ ?_; clear hG; clear Kg)))); all_goals (conv => whnf); all_goals (repeat ((try (clear hG; clear Kg)); clear hN hX hR; clear Kv))
         all_goals (try simp only [etaView, Int.toNat_natCast] at *)
         all_goals first
           | exact Ob.mk ⟨by omega, of_decide_eq_true (by with_reducible assumption)⟩
           | (have h := of_decide_eq_true (show decide ((i : Int) < ((tickV v).2.1.length : Nat)) = true by with_reducible assumption)
              have hlt : i < (tickV v).2.1.length := by omega
              have hm := q4 _ (getD_mem (d := 0) hlt)
              have g0 := place_iff.1 hm.1
              have g1 := marksL_get (l := (tickV v).2.1.take i) hm.1
              have g2 : decide ((tickV v).2.1.getD i 0 ∈ (tickV v).2.1.take i) = false := decide_eq_false (take_get q3 hlt)
              have g3 := marksL_set (l := (tickV v).2.1.take i) hm.1
              rw [take_app hlt] at g3
              rw [g2] at g1
              first
                | exact Ob.mk ⟨g0.1, g0.2, by rw [marksL_len]; exact Nat.le_refl _⟩
                | (have h6 : (!placeB ((tickV v).2.1.getD i 0)) = true := by with_reducible assumption
                   rw [hm.1] at h6
                   exact absurd h6 (by decide))
                | (have h6 : (marksL ((tickV v).2.1.take i)).getD ((tickV v).2.1.getD i 0).toNat false = true := by with_reducible assumption
                   rw [g1] at h6
                   exact absurd h6 (by decide))
                | (refine ⟨i + 1, hlt, by omega, ?_⟩
                   (repeat' (first | ((with_reducible refine body_intro ?_); (first | ((with_reducible refine seq_intro ?_ (fun Kv hN hX hR => ?_)); (next => exact rfl)) | ((with_reducible refine join_intro ?_ ?_); (next => exact rfl)) | (conv => whnf))) | with_reducible refine body_stop (fun Kv hN hX hR => ?_) | with_reducible refine Stop.mk ?_ | with_reducible refine Join.mk ⟨fun Kv hN hX hR => ?_, ?_⟩ | with_reducible refine DrawJ.each ?_ | with_reducible exact SubJ.self _ | with_reducible refine SubJ.of ?_ | with_reducible refine fill2_step (fun Kf hF => ?_) | with_reducible refine fill2_nil ?_ | with_reducible refine node2_step (fun Kg hG => ?_) | (with_reducible refine hF _ _ ?_; clear hF; clear Kf) | (with_reducible refine hG _ _ _ _ ?_; clear hG; clear Kg) | ((with_reducible refine seq_intro ?_ (fun Kv hN hX hR => ?_)); (next => exact rfl)) | ((with_reducible refine join_intro ?_ ?_); (next => exact rfl)) | (with_reducible refine hN _ ?_; (try (clear hG; clear Kg)); clear hN hX hR; clear Kv) | (with_reducible refine hX _ _ ?_; (try (clear hG; clear Kg)); clear hN hX hR; clear Kv) | (with_reducible refine hR _ ?_; (try (clear hG; clear Kg)); clear hN hX hR; clear Kv) | ((conv => whnf); first | with_reducible rfl | with_reducible exact True.intro | with_reducible intro _ | with_reducible refine And.intro ?_ ?_ | (with_reducible refine hN _ ?_; (try (clear hG; clear Kg)); clear hN hX hR; clear Kv) | (with_reducible refine hX _ _ ?_; (try (clear hG; clear Kg)); clear hN hX hR; clear Kv) | (with_reducible refine hR _ ?_; (try (clear hG; clear Kg)); clear hN hX hR; clear Kv) | with_reducible refine body_stop (fun Kv hN hX hR => ?_) | with_reducible refine Stop.mk ?_ | with_reducible refine Join.mk ⟨fun Kv hN hX hR => ?_, ?_⟩ | with_reducible refine DrawJ.each ?_ | with_reducible exact SubJ.self _ | with_reducible refine SubJ.of ?_ | with_reducible refine fill2_step (fun Kf hF => ?_) | with_reducible refine fill2_nil ?_ | with_reducible refine node2_step (fun Kg hG => ?_) | (with_reducible refine hF _ _ ?_; clear hF; clear Kf) | (with_reducible refine hG _ _ _ _ ?_; clear hG; clear Kg)))); all_goals (conv => whnf); all_goals (repeat ((try (clear hG; clear Kg)); clear hN hX hR; clear Kv))
                   all_goals first
                     | exact wrapI (by omega) (by omega)
                     | exact congrArg Rw.bools g3
                     | rfl
                     | trace_state)
                | trace_state)
           | (have h := of_decide_eq_false (show decide ((i : Int) < ((tickV v).2.1.length : Nat)) = false by with_reducible assumption)
              have hT : (tickV v).2.1.take i = (tickV v).2.1 := List.take_of_length_le (by omega)
              rw [hT]
              first
                | (refine ⟨0, Nat.zero_le _, ?_⟩
                   (repeat' (first | ((with_reducible refine body_intro ?_); (first | ((with_reducible refine seq_intro ?_ (fun Kv hN hX hR => ?_)); (next => exact rfl)) | ((with_reducible refine join_intro ?_ ?_); (next => exact rfl)) | (conv => whnf))) | with_reducible refine body_stop (fun Kv hN hX hR => ?_) | with_reducible refine Stop.mk ?_ | with_reducible refine Join.mk ⟨fun Kv hN hX hR => ?_, ?_⟩ | with_reducible refine DrawJ.each ?_ | with_reducible exact SubJ.self _ | with_reducible refine SubJ.of ?_ | with_reducible refine fill2_step (fun Kf hF => ?_) | with_reducible refine fill2_nil ?_ | with_reducible refine node2_step (fun Kg hG => ?_) | (with_reducible refine hF _ _ ?_; clear hF; clear Kf) | (with_reducible refine hG _ _ _ _ ?_; clear hG; clear Kg) | ((with_reducible refine seq_intro ?_ (fun Kv hN hX hR => ?_)); (next => exact rfl)) | ((with_reducible refine join_intro ?_ ?_); (next => exact rfl)) | (with_reducible refine hN _ ?_; (try (clear hG; clear Kg)); clear hN hX hR; clear Kv) | (with_reducible refine hX _ _ ?_; (try (clear hG; clear Kg)); clear hN hX hR; clear Kv) | (with_reducible refine hR _ ?_; (try (clear hG; clear Kg)); clear hN hX hR; clear Kv) | ((conv => whnf); first | with_reducible rfl | with_reducible exact True.intro | with_reducible intro _ | with_reducible refine And.intro ?_ ?_ | (with_reducible refine hN _ ?_; (try (clear hG; clear Kg)); clear hN hX hR; clear Kv) | (with_reducible refine hX _ _ ?_; (try (clear hG; clear Kg)); clear hN hX hR; clear Kv) | (with_reducible refine hR _ ?_; (try (clear hG; clear Kg)); clear hN hX hR; clear Kv) | with_reducible refine body_stop (fun Kv hN hX hR => ?_) | with_reducible refine Stop.mk ?_ | with_reducible refine Join.mk ⟨fun Kv hN hX hR => ?_, ?_⟩ | with_reducible refine DrawJ.each ?_ | with_reducible exact SubJ.self _ | with_reducible refine SubJ.of ?_ | with_reducible refine fill2_step (fun Kf hF => ?_) | with_reducible refine fill2_nil ?_ | with_reducible refine node2_step (fun Kg hG => ?_) | (with_reducible refine hF _ _ ?_; clear hF; clear Kf) | (with_reducible refine hG _ _ _ _ ?_; clear hG; clear Kg)))); all_goals (conv => whnf); all_goals (repeat ((try (clear hG; clear Kg)); clear hN hX hR; clear Kv))
                   all_goals rfl)
                | (with_reducible intro j hj
                   have hj : j ≤ v.peers.length := hj
                   (repeat' (first | ((with_reducible refine body_intro ?_); (first | ((with_reducible refine seq_intro ?_ (fun Kv hN hX hR => ?_)); (next => exact rfl)) | ((with_reducible refine join_intro ?_ ?_); (next => exact rfl)) | (conv => whnf))) | with_reducible refine body_stop (fun Kv hN hX hR => ?_) | with_reducible refine Stop.mk ?_ | with_reducible refine Join.mk ⟨fun Kv hN hX hR => ?_, ?_⟩ | with_reducible refine DrawJ.each ?_ | with_reducible exact SubJ.self _ | with_reducible refine SubJ.of ?_ | with_reducible refine fill2_step (fun Kf hF => ?_) | with_reducible refine fill2_nil ?_ | with_reducible refine node2_step (fun Kg hG => ?_) | (with_reducible refine hF _ _ ?_; clear hF; clear Kf) | (with_reducible refine hG _ _ _ _ ?_; clear hG; clear Kg) | ((with_reducible refine seq_intro ?_ (fun Kv hN hX hR => ?_)); (next => exact rfl)) | ((with_reducible refine join_intro ?_ ?_); (next => exact rfl)) | (with_reducible refine hN _ ?_; (try (clear hG; clear Kg)); clear hN hX hR; clear Kv) | (with_reducible refine hX _ _ ?_; (try (clear hG; clear Kg)); clear hN hX hR; clear Kv) | (with_reducible refine hR _ ?_; (try (clear hG; clear Kg)); clear hN hX hR; clear Kv) | ((conv => whnf); first | with_reducible rfl | with_reducible exact True.intro | with_reducible refine (fun (_ : (_ : Prop)) => ?_) | with_reducible refine And.intro ?_ ?_ | (with_reducible refine hN _ ?_; (try (clear hG; clear Kg)); clear hN hX hR; clear Kv) | (with_reducible refine hX _ _ ?_; (try (clear hG; clear Kg)); clear hN hX hR; clear Kv) | (with_reducible refine hR _ ?_; (try (clear hG; clear Kg)); clear hN hX hR; clear Kv) | with_reducible refine body_stop (fun Kv hN hX hR => ?_) | with_reducible refine Stop.mk ?_ | with_reducible refine Join.mk ⟨fun Kv hN hX hR => ?_, ?_⟩ | with_reducible refine DrawJ.each ?_ | with_reducible exact SubJ.self _ | with_reducible refine SubJ.of ?_ | with_reducible refine fill2_step (fun Kf hF => ?_) | with_reducible refine fill2_nil ?_ | with_reducible refine node2_step (fun Kg hG => ?_) | (with_reducible refine hF _ _ ?_; clear hF; clear Kf) | (with_reducible refine hG _ _ _ _ ?_; clear hG; clear Kg)))); all_goals (conv => whnf); all_goals (repeat ((try (clear hG; clear Kg)); clear hN hX hR; clear Kv))
                   all_goals (try simp only [etaView, Int.toNat_natCast] at *)
                   all_goals first
                     | exact Ob.mk ⟨by omega, of_decide_eq_true (by with_reducible assumption)⟩
                     | (have h := of_decide_eq_true (show decide ((j : Int) < (v.peers.length : Nat)) = true by with_reducible assumption)
                        have hlt : j < v.peers.length := by omega
                        have hx := q5 _ (getD_mem (d := default) hlt)
                        have hm := q4 _ hx
                        have g0 := place_iff.1 hm.1
                        have g1 := marksL_get (l := (tickV v).2.1) hm.1
                        rw [decide_eq_true hx] at g1
                        first
                          | exact Ob.mk ⟨g0.1, g0.2, by rw [marksL_len]; exact Nat.le_refl _⟩
                          | (have h6 : (!(marksL (tickV v).2.1).getD (v.peers.getD j default).id.toNat false) = true := by with_reducible assumption
                             rw [g1] at h6
                             exact absurd h6 (by decide))
                          | (refine ⟨j + 1, hlt, by omega, ?_⟩
                             (repeat' (first | ((with_reducible refine body_intro ?_); (first | ((with_reducible refine seq_intro ?_ (fun Kv hN hX hR => ?_)); (next => exact rfl)) | ((with_reducible refine join_intro ?_ ?_); (next => exact rfl)) | (conv => whnf))) | with_reducible refine body_stop (fun Kv hN hX hR => ?_) | with_reducible refine Stop.mk ?_ | with_reducible refine Join.mk ⟨fun Kv hN hX hR => ?_, ?_⟩ | with_reducible refine DrawJ.each ?_ | with_reducible exact SubJ.self _ | with_reducible refine SubJ.of ?_ | with_reducible refine fill2_step (fun Kf hF => ?_) | with_reducible refine fill2_nil ?_ | with_reducible refine node2_step (fun Kg hG => ?_) | (with_reducible refine hF _ _ ?_; clear hF; clear Kf) | (with_reducible refine hG _ _ _ _ ?_; clear hG; clear Kg) | ((with_reducible refine seq_intro ?_ (fun Kv hN hX hR => ?_)); (next => exact rfl)) | ((with_reducible refine join_intro ?_ ?_); (next => exact rfl)) | (with_reducible refine hN _ ?_; (try (clear hG; clear Kg)); clear hN hX hR; clear Kv) | (with_reducible refine hX _ _ ?_; (try (clear hG; clear Kg)); clear hN hX hR; clear Kv) | (with_reducible refine hR _ ?_; (try (clear hG; clear Kg)); clear hN hX hR; clear Kv) | ((conv => whnf); first | with_reducible rfl | with_reducible exact True.intro | with_reducible intro _ | with_reducible refine And.intro ?_ ?_ | (with_reducible refine hN _ ?_; (try (clear hG; clear Kg)); clear hN hX hR; clear Kv) | (with_reducible refine hX _ _ ?_; (try (clear hG; clear Kg)); clear hN hX hR; clear Kv) | (with_reducible refine hR _ ?_; (try (clear hG; clear Kg)); clear hN hX hR; clear Kv) | with_reducible refine body_stop (fun Kv hN hX hR => ?_) | with_reducible refine Stop.mk ?_ | with_reducible refine Join.mk ⟨fun Kv hN hX hR => ?_, ?_⟩ | with_reducible refine DrawJ.each ?_ | with_reducible exact SubJ.self _ | with_reducible refine SubJ.of ?_ | with_reducible refine fill2_step (fun Kf hF => ?_) | with_reducible refine fill2_nil ?_ | with_reducible refine node2_step (fun Kg hG => ?_) | (with_reducible refine hF _ _ ?_; clear hF; clear Kf) | (with_reducible refine hG _ _ _ _ ?_; clear hG; clear Kg)))); all_goals (conv => whnf); all_goals (repeat ((try (clear hG; clear Kg)); clear hN hX hR; clear Kv))
                             all_goals first
                               | exact wrapI (by omega) (by omega)
                               | rfl
                               | trace_state)
                          | trace_state)
                     | (refine ⟨0, Nat.zero_le _, ?_⟩
                        (repeat' (first | ((with_reducible refine body_intro ?_); (first | ((with_reducible refine seq_intro ?_ (fun Kv hN hX hR => ?_)); (next => exact rfl)) | ((with_reducible refine join_intro ?_ ?_); (next => exact rfl)) | (conv => whnf))) | with_reducible refine body_stop (fun Kv hN hX hR => ?_) | with_reducible refine Stop.mk ?_ | with_reducible refine Join.mk ⟨fun Kv hN hX hR => ?_, ?_⟩ | with_reducible refine DrawJ.each ?_ | with_reducible exact SubJ.self _ | with_reducible refine SubJ.of ?_ | with_reducible refine fill2_step (fun Kf hF => ?_) | with_reducible refine fill2_nil ?_ | with_reducible refine node2_step (fun Kg hG => ?_) | (with_reducible refine hF _ _ ?_; clear hF; clear Kf) | (with_reducible refine hG _ _ _ _ ?_; clear hG; clear Kg) | ((with_reducible refine seq_intro ?_ (fun Kv hN hX hR => ?_)); (next => exact rfl)) | ((with_reducible refine join_intro ?_ ?_); (next => exact rfl)) | (with_reducible refine hN _ ?_; (try (clear hG; clear Kg)); clear hN hX hR; clear Kv) | (with_reducible refine hX _ _ ?_; (try (clear hG; clear Kg)); clear hN hX hR; clear Kv) | (with_reducible refine hR _ ?_; (try (clear hG; clear Kg)); clear hN hX hR; clear Kv) | ((conv => whnf); first | with_reducible rfl | with_reducible exact True.intro | with_reducible intro _ | with_reducible refine And.intro ?_ ?_ | (with_reducible refine hN _ ?_; (try (clear hG; clear Kg)); clear hN hX hR; clear Kv) | (with_reducible refine hX _ _ ?_; (try (clear hG; clear Kg)); clear hN hX hR; clear Kv) | (with_reducible refine hR _ ?_; (try (clear hG; clear Kg)); clear hN hX hR; clear Kv) | with_reducible refine body_stop (fun Kv hN hX hR => ?_) | with_reducible refine Stop.mk ?_ | with_reducible refine Join.mk ⟨fun Kv hN hX hR => ?_, ?_⟩ | with_reducible refine DrawJ.each ?_ | with_reducible exact SubJ.self _ | with_reducible refine SubJ.of ?_ | with_reducible refine fill2_step (fun Kf hF => ?_) | with_reducible refine fill2_nil ?_ | with_reducible refine node2_step (fun Kg hG => ?_) | (with_reducible refine hF _ _ ?_; clear hF; clear Kf) | (with_reducible refine hG _ _ _ _ ?_; clear hG; clear Kg)))); all_goals (conv => whnf); all_goals (repeat ((try (clear hG; clear Kg)); clear hN hX hR; clear Kv))
                        all_goals rfl)
                     | (with_reducible intro k hk
                        have hk : k ≤ v.passive.length := hk
                        (repeat' (first | ((with_reducible refine body_intro ?_); (first | ((with_reducible refine seq_intro ?_ (fun Kv hN hX hR => ?_)); (next => exact rfl)) | ((with_reducible refine join_intro ?_ ?_); (next => exact rfl)) | (conv => whnf))) | with_reducible refine body_stop (fun Kv hN hX hR => ?_) | with_reducible refine Stop.mk ?_ | with_reducible refine Join.mk ⟨fun Kv hN hX hR => ?_, ?_⟩ | with_reducible refine DrawJ.each ?_ | with_reducible exact SubJ.self _ | with_reducible refine SubJ.of ?_ | with_reducible refine fill2_step (fun Kf hF => ?_) | with_reducible refine fill2_nil ?_ | with_reducible refine node2_step (fun Kg hG => ?_) | (with_reducible refine hF _ _ ?_; clear hF; clear Kf) | (with_reducible refine hG _ _ _ _ ?_; clear hG; clear Kg) | ((with_reducible refine seq_intro ?_ (fun Kv hN hX hR => ?_)); (next => exact rfl)) | ((with_reducible refine join_intro ?_ ?_); (next => exact rfl)) | (with_reducible refine hN _ ?_; (try (clear hG; clear Kg)); clear hN hX hR; clear Kv) | (with_reducible refine hX _ _ ?_; (try (clear hG; clear Kg)); clear hN hX hR; clear Kv) | (with_reducible refine hR _ ?_; (try (clear hG; clear Kg)); clear hN hX hR; clear Kv) | ((conv => whnf); first | with_reducible rfl | with_reducible exact True.intro | with_reducible refine (fun (_ : (_ : Prop)) => ?_) | with_reducible refine And.intro ?_ ?_ | (with_reducible refine hN _ ?_; (try (clear hG; clear Kg)); clear hN hX hR; clear Kv) | (with_reducible refine hX _ _ ?_; (try (clear hG; clear Kg)); clear hN hX hR; clear Kv) | (with_reducible refine hR _ ?_; (try (clear hG; clear Kg)); clear hN hX hR; clear Kv) | with_reducible refine body_stop (fun Kv hN hX hR => ?_) | with_reducible refine Stop.mk ?_ | with_reducible refine Join.mk ⟨fun Kv hN hX hR => ?_, ?_⟩ | with_reducible refine DrawJ.each ?_ | with_reducible exact SubJ.self _ | with_reducible refine SubJ.of ?_ | with_reducible refine fill2_step (fun Kf hF => ?_) | with_reducible refine fill2_nil ?_ | with_reducible refine node2_step (fun Kg hG => ?_) | (with_reducible refine hF _ _ ?_; clear hF; clear Kf) | (with_reducible refine hG _ _ _ _ ?_; clear hG; clear Kg)))); all_goals (conv => whnf); all_goals (repeat ((try (clear hG; clear Kg)); clear hN hX hR; clear Kv))
                        all_goals (try simp only [etaView, Int.toNat_natCast] at *)
                        all_goals first
                          | exact Ob.mk ⟨by omega, of_decide_eq_true (by with_reducible assumption)⟩
                          | (have h := of_decide_eq_true (show decide ((k : Int) < (v.passive.length : Nat)) = true by with_reducible assumption)
                             have hlt : k < v.passive.length := by omega
                             have hx := q6 _ (getD_mem (d := 0) hlt)
                             have hm := q4 _ hx
                             have g0 := place_iff.1 hm.1
                             have g1 := marksL_get (l := (tickV v).2.1) hm.1
                             rw [decide_eq_true hx] at g1
                             first
                               | exact Ob.mk ⟨g0.1, g0.2, by rw [marksL_len]; exact Nat.le_refl _⟩
                               | (have h6 : (!(marksL (tickV v).2.1).getD (v.passive.getD k 0).toNat false) = true := by with_reducible assumption
                                  rw [g1] at h6
                                  exact absurd h6 (by decide))
                               | (refine ⟨k + 1, hlt, by omega, ?_⟩
                                  (repeat' (first | ((with_reducible refine body_intro ?_); (first | ((with_reducible refine seq_intro ?_ (fun Kv hN hX hR => ?_)); (next => exact rfl)) | ((with_reducible refine join_intro ?_ ?_); (next => exact rfl)) | (conv => whnf))) | with_reducible refine body_stop (fun Kv hN hX hR => ?_) | with_reducible refine Stop.mk ?_ | with_reducible refine Join.mk ⟨fun Kv hN hX hR => ?_, ?_⟩ | with_reducible refine DrawJ.each ?_ | with_reducible exact SubJ.self _ | with_reducible refine SubJ.of ?_ | with_reducible refine fill2_step (fun Kf hF => ?_) | with_reducible refine fill2_nil ?_ | with_reducible refine node2_step (fun Kg hG => ?_) | (with_reducible refine hF _ _ ?_; clear hF; clear Kf) | (with_reducible refine hG _ _ _ _ ?_; clear hG; clear Kg) | ((with_reducible refine seq_intro ?_ (fun Kv hN hX hR => ?_)); (next => exact rfl)) | ((with_reducible refine join_intro ?_ ?_); (next => exact rfl)) | (with_reducible refine hN _ ?_; (try (clear hG; clear Kg)); clear hN hX hR; clear Kv) | (with_reducible refine hX _ _ ?_; (try (clear hG; clear Kg)); clear hN hX hR; clear Kv) | (with_reducible refine hR _ ?_; (try (clear hG; clear Kg)); clear hN hX hR; clear Kv) | ((conv => whnf); first | with_reducible rfl | with_reducible exact True.intro | with_reducible intro _ | with_reducible refine And.intro ?_ ?_ | (with_reducible refine hN _ ?_; (try (clear hG; clear Kg)); clear hN hX hR; clear Kv) | (with_reducible refine hX _ _ ?_; (try (clear hG; clear Kg)); clear hN hX hR; clear Kv) | (with_reducible refine hR _ ?_; (try (clear hG; clear Kg)); clear hN hX hR; clear Kv) | with_reducible refine body_stop (fun Kv hN hX hR => ?_) | with_reducible refine Stop.mk ?_ | with_reducible refine Join.mk ⟨fun Kv hN hX hR => ?_, ?_⟩ | with_reducible refine DrawJ.each ?_ | with_reducible exact SubJ.self _ | with_reducible refine SubJ.of ?_ | with_reducible refine fill2_step (fun Kf hF => ?_) | with_reducible refine fill2_nil ?_ | with_reducible refine node2_step (fun Kg hG => ?_) | (with_reducible refine hF _ _ ?_; clear hF; clear Kf) | (with_reducible refine hG _ _ _ _ ?_; clear hG; clear Kg)))); all_goals (conv => whnf); all_goals (repeat ((try (clear hG; clear Kg)); clear hN hX hR; clear Kv))
                                  all_goals first
                                    | exact wrapI (by omega) (by omega)
                                    | rfl
                                    | trace_state)
                               | trace_state)
                          | exact decide_eq_true t2
                          | trace_state)
                     | trace_state)
                | trace_state)
           | trace_state)
      | trace_state
end Go.Proofs.Ytaapoiikbolgnaa
