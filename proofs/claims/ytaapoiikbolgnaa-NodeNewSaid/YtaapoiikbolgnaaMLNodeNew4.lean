/- A part of the proof of NodeNew: SameItems, SameTolds, G16a, G16b, G16c, G16e. -/
import Derived.Test.YtaapoiikbolgnaaMLNodeNew3
/- Contracts: the laws' comparisons: Items. -/
namespace Go.Proofs.Ytaapoiikbolgnaa
open Go.RowKit

theorem k_SameItems : Known Try.prog tau 40 (S2 dItems dItems fun a b => okB (decide (a = b))) := by
  refine known2 hmix tau_ok ctx_nil (fn := Try.f40) (by kernel_rfl) [(6, [(0, 0), (1, 0), (2, 3), (3, 4), (4, 0), (5, 0), (6, 48), (7, 64), (8, 136)])] (by kernel_rfl) _ _ _ fun xs ys hfit => ⟨rfl,
    [(4, invN [4, 5, 11, 12, 13, 14, 15, 16, 17, 18, 19, 20, 21, 22, 23, 24, 25] (fun i => i ≤ xs.length ∧ ∀ j, j < i → xs.getD j default = ys.getD j default) (fun i => withS [(5, .int .i64 i)]) (fun i => xs.length - i))], ?_⟩
  have hlen : xs.length * 40 ≤ 140737488355328 := hfit.1
  clear hfit
  (repeat' (first | ((with_reducible refine body_intro ?_); (first | ((with_reducible refine seq_intro ?_ (fun Kv hN hX hR => ?_)); (next => exact rfl)) | ((with_reducible refine join_intro ?_ (fun Kv hN hX hR => ?_) ?_); (next => exact rfl)) | (conv => whnf))) | with_reducible refine body_stop (fun Kv hN hX hR => ?_) | with_reducible refine Stop.mk ?_ | with_reducible refine DrawJ.each ?_ | with_reducible exact SubJ.self _ | with_reducible refine SubJ.of ?_ | with_reducible refine fill2_step (fun Kf hF => ?_) | with_reducible refine fill2_nil ?_ | with_reducible refine node2_step (fun Kg hG => ?_) | (with_reducible refine hF _ _ ?_; clear hF; clear Kf) | (with_reducible refine hG _ _ _ _ ?_; clear hG; clear Kg) | ((with_reducible refine seq_intro ?_ (fun Kv hN hX hR => ?_)); (next => exact rfl)) | ((with_reducible refine join_intro ?_ (fun Kv hN hX hR => ?_) ?_); (next => exact rfl)) | (with_reducible refine hN _ ?_; (try (clear hG; clear Kg)); clear hN hX hR; clear Kv) | (with_reducible refine hX _ _ ?_; (try (clear hG; clear Kg)); clear hN hX hR; clear Kv) | (with_reducible refine hR _ ?_; (try (clear hG; clear Kg)); clear hN hX hR; clear Kv) | ((conv => whnf); first | with_reducible rfl | with_reducible exact True.intro | with_reducible refine (fun (_ : (_ : Prop)) => ?_) | with_reducible refine And.intro ?_ ?_ | (with_reducible refine hN _ ?_; (try (clear hG; clear Kg)); clear hN hX hR; clear Kv) | (with_reducible refine hX _ _ ?_; (try (clear hG; clear Kg)); clear hN hX hR; clear Kv) | (with_reducible refine hR _ ?_; (try (clear hG; clear Kg)); clear hN hX hR; clear Kv) | with_reducible refine body_stop (fun Kv hN hX hR => ?_) | with_reducible refine Stop.mk ?_ | with_reducible refine DrawJ.each ?_ | with_reducible exact SubJ.self _ | with_reducible refine SubJ.of ?_ | with_reducible refine fill2_step (fun Kf hF => ?_) | with_reducible refine fill2_nil ?_ | with_reducible refine node2_step (fun Kg hG => ?_) | (with_reducible refine hF _ _ ?_; clear hF; clear Kf) | (with_reducible refine hG _ _ _ _ ?_; clear hG; clear Kg)))); all_goals (conv => whnf); all_goals (repeat ((try (clear hG; clear Kg)); clear hN hX hR; clear Kv))
  all_goals first
    | (have h := of_decide_eq_false (nf (by with_reducible assumption))
       exact (decide_eq_false (fun e => h (by rw [e]))).symm)
    | (refine ⟨0, ⟨by omega, by intros; omega⟩, ?_⟩
       (repeat' (first | ((with_reducible refine body_intro ?_); (first | ((with_reducible refine seq_intro ?_ (fun Kv hN hX hR => ?_)); (next => exact rfl)) | ((with_reducible refine join_intro ?_ (fun Kv hN hX hR => ?_) ?_); (next => exact rfl)) | (conv => whnf))) | with_reducible refine body_stop (fun Kv hN hX hR => ?_) | with_reducible refine Stop.mk ?_ | with_reducible refine DrawJ.each ?_ | with_reducible exact SubJ.self _ | with_reducible refine SubJ.of ?_ | with_reducible refine fill2_step (fun Kf hF => ?_) | with_reducible refine fill2_nil ?_ | with_reducible refine node2_step (fun Kg hG => ?_) | (with_reducible refine hF _ _ ?_; clear hF; clear Kf) | (with_reducible refine hG _ _ _ _ ?_; clear hG; clear Kg) | ((with_reducible refine seq_intro ?_ (fun Kv hN hX hR => ?_)); (next => exact rfl)) | ((with_reducible refine join_intro ?_ (fun Kv hN hX hR => ?_) ?_); (next => exact rfl)) | (with_reducible refine hN _ ?_; (try (clear hG; clear Kg)); clear hN hX hR; clear Kv) | (with_reducible refine hX _ _ ?_; (try (clear hG; clear Kg)); clear hN hX hR; clear Kv) | (with_reducible refine hR _ ?_; (try (clear hG; clear Kg)); clear hN hX hR; clear Kv) | ((conv => whnf); first | with_reducible rfl | with_reducible exact True.intro | with_reducible intro _ | with_reducible refine And.intro ?_ ?_ | (with_reducible refine hN _ ?_; (try (clear hG; clear Kg)); clear hN hX hR; clear Kv) | (with_reducible refine hX _ _ ?_; (try (clear hG; clear Kg)); clear hN hX hR; clear Kv) | (with_reducible refine hR _ ?_; (try (clear hG; clear Kg)); clear hN hX hR; clear Kv) | with_reducible refine body_stop (fun Kv hN hX hR => ?_) | with_reducible refine Stop.mk ?_ | with_reducible refine DrawJ.each ?_ | with_reducible exact SubJ.self _ | with_reducible refine SubJ.of ?_ | with_reducible refine fill2_step (fun Kf hF => ?_) | with_reducible refine fill2_nil ?_ | with_reducible refine node2_step (fun Kg hG => ?_) | (with_reducible refine hF _ _ ?_; clear hF; clear Kf) | (with_reducible refine hG _ _ _ _ ?_; clear hG; clear Kg)))); all_goals (conv => whnf); all_goals (repeat ((try (clear hG; clear Kg)); clear hN hX hR; clear Kv))
       all_goals rfl)
    | (with_reducible intro i hi
       have hl : (xs.length : Int) = ys.length := of_decide_eq_true (nt (by with_reducible assumption))
       (repeat' (first | ((with_reducible refine body_intro ?_); (first | ((with_reducible refine seq_intro ?_ (fun Kv hN hX hR => ?_)); (next => exact rfl)) | ((with_reducible refine join_intro ?_ (fun Kv hN hX hR => ?_) ?_); (next => exact rfl)) | (conv => whnf))) | with_reducible refine body_stop (fun Kv hN hX hR => ?_) | with_reducible refine Stop.mk ?_ | with_reducible refine DrawJ.each ?_ | with_reducible exact SubJ.self _ | with_reducible refine SubJ.of ?_ | with_reducible refine fill2_step (fun Kf hF => ?_) | with_reducible refine fill2_nil ?_ | with_reducible refine node2_step (fun Kg hG => ?_) | (with_reducible refine hF _ _ ?_; clear hF; clear Kf) | (with_reducible refine hG _ _ _ _ ?_; clear hG; clear Kg) | ((with_reducible refine seq_intro ?_ (fun Kv hN hX hR => ?_)); (next => exact rfl)) | ((with_reducible refine join_intro ?_ (fun Kv hN hX hR => ?_) ?_); (next => exact rfl)) | (with_reducible refine hN _ ?_; (try (clear hG; clear Kg)); clear hN hX hR; clear Kv) | (with_reducible refine hX _ _ ?_; (try (clear hG; clear Kg)); clear hN hX hR; clear Kv) | (with_reducible refine hR _ ?_; (try (clear hG; clear Kg)); clear hN hX hR; clear Kv) | ((conv => whnf); first | with_reducible rfl | with_reducible exact True.intro | with_reducible intro _ | with_reducible refine And.intro ?_ ?_ | (with_reducible refine hN _ ?_; (try (clear hG; clear Kg)); clear hN hX hR; clear Kv) | (with_reducible refine hX _ _ ?_; (try (clear hG; clear Kg)); clear hN hX hR; clear Kv) | (with_reducible refine hR _ ?_; (try (clear hG; clear Kg)); clear hN hX hR; clear Kv) | with_reducible refine body_stop (fun Kv hN hX hR => ?_) | with_reducible refine Stop.mk ?_ | with_reducible refine DrawJ.each ?_ | with_reducible exact SubJ.self _ | with_reducible refine SubJ.of ?_ | with_reducible refine fill2_step (fun Kf hF => ?_) | with_reducible refine fill2_nil ?_ | with_reducible refine node2_step (fun Kg hG => ?_) | (with_reducible refine hF _ _ ?_; clear hF; clear Kf) | (with_reducible refine hG _ _ _ _ ?_; clear hG; clear Kg)))); all_goals (conv => whnf); all_goals (repeat ((try (clear hG; clear Kg)); clear hN hX hR; clear Kv))
       all_goals (try simp only [Int.toNat_natCast] at *)
       all_goals first
         | (have h := of_decide_eq_true (show decide ((i : Int) < (xs.length : Nat)) = true by with_reducible assumption)
            exact Ob.mk ⟨by omega, by omega⟩)
         | (have h := of_decide_eq_true (show decide ((i : Int) < (xs.length : Nat)) = true by with_reducible assumption)
            have h3 : ¬ (xs.getD i default = ys.getD i default) := by
              intro e
              simp_all
              done
            exact (decide_eq_false (fun e => h3 (by rw [e]))).symm)
         | (have h := of_decide_eq_true (show decide ((i : Int) < (xs.length : Nat)) = true by with_reducible assumption)
            have h3 : xs.getD i default = ys.getD i default := by
              have key : ∀ p q : GItem, (!(decide (p.key = q.key) && (decide (p.ver.count = q.ver.count) && (decide (p.ver.writer = q.ver.writer) && (decide (p.value = q.value) && p.gone == q.gone))))) = false → p = q := by
                rintro ⟨_, ⟨_, _⟩, _, _⟩ ⟨_, ⟨_, _⟩, _, _⟩ h
                simp_all
              exact key _ _ (by with_reducible assumption)
            refine ⟨i + 1, ⟨by omega, fun j hj => ?_⟩, by show xs.length - (i + 1) < xs.length - i; omega, ?_⟩
            · rcases Nat.lt_succ_iff_lt_or_eq.1 hj with h4 | h4
              · exact hi.2 j h4
              · subst h4; exact h3
            · (repeat' (first | ((with_reducible refine body_intro ?_); (first | ((with_reducible refine seq_intro ?_ (fun Kv hN hX hR => ?_)); (next => exact rfl)) | ((with_reducible refine join_intro ?_ (fun Kv hN hX hR => ?_) ?_); (next => exact rfl)) | (conv => whnf))) | with_reducible refine body_stop (fun Kv hN hX hR => ?_) | with_reducible refine Stop.mk ?_ | with_reducible refine DrawJ.each ?_ | with_reducible exact SubJ.self _ | with_reducible refine SubJ.of ?_ | with_reducible refine fill2_step (fun Kf hF => ?_) | with_reducible refine fill2_nil ?_ | with_reducible refine node2_step (fun Kg hG => ?_) | (with_reducible refine hF _ _ ?_; clear hF; clear Kf) | (with_reducible refine hG _ _ _ _ ?_; clear hG; clear Kg) | ((with_reducible refine seq_intro ?_ (fun Kv hN hX hR => ?_)); (next => exact rfl)) | ((with_reducible refine join_intro ?_ (fun Kv hN hX hR => ?_) ?_); (next => exact rfl)) | (with_reducible refine hN _ ?_; (try (clear hG; clear Kg)); clear hN hX hR; clear Kv) | (with_reducible refine hX _ _ ?_; (try (clear hG; clear Kg)); clear hN hX hR; clear Kv) | (with_reducible refine hR _ ?_; (try (clear hG; clear Kg)); clear hN hX hR; clear Kv) | ((conv => whnf); first | with_reducible rfl | with_reducible exact True.intro | with_reducible intro _ | with_reducible refine And.intro ?_ ?_ | (with_reducible refine hN _ ?_; (try (clear hG; clear Kg)); clear hN hX hR; clear Kv) | (with_reducible refine hX _ _ ?_; (try (clear hG; clear Kg)); clear hN hX hR; clear Kv) | (with_reducible refine hR _ ?_; (try (clear hG; clear Kg)); clear hN hX hR; clear Kv) | with_reducible refine body_stop (fun Kv hN hX hR => ?_) | with_reducible refine Stop.mk ?_ | with_reducible refine DrawJ.each ?_ | with_reducible exact SubJ.self _ | with_reducible refine SubJ.of ?_ | with_reducible refine fill2_step (fun Kf hF => ?_) | with_reducible refine fill2_nil ?_ | with_reducible refine node2_step (fun Kg hG => ?_) | (with_reducible refine hF _ _ ?_; clear hF; clear Kf) | (with_reducible refine hG _ _ _ _ ?_; clear hG; clear Kg)))); all_goals (conv => whnf); all_goals (repeat ((try (clear hG; clear Kg)); clear hN hX hR; clear Kv))
              all_goals first
                | exact wrapI (by omega) (by omega)
                | rfl)
         | (have h := of_decide_eq_false (show decide ((i : Int) < (xs.length : Nat)) = false by with_reducible assumption)
            exact (decide_eq_true (eq_of_take (d := default) (by omega) fun j hj => hi.2 j (by omega))).symm)
         | trace_state)
    | trace_state
end Go.Proofs.Ytaapoiikbolgnaa

/- Contracts: the laws' comparisons: Tolds. -/
namespace Go.Proofs.Ytaapoiikbolgnaa
open Go.RowKit

theorem k_SameTolds : Known Try.prog tau 41 (S2 dTolds dTolds fun a b => okB (decide (a = b))) := by
  refine known2 hmix tau_ok ctx_nil (fn := Try.f41) (by kernel_rfl) [(6, [(0, 0), (1, 0), (2, 3), (3, 4), (4, 0), (5, 0), (6, 48), (7, 64), (8, 136)])] (by kernel_rfl) _ _ _ fun xs ys hfit => ⟨rfl,
    [(4, invN [4, 5, 11, 12, 13, 14, 15, 16, 17, 18, 19, 20, 21, 22, 23, 24, 25] (fun i => i ≤ xs.length ∧ ∀ j, j < i → xs.getD j default = ys.getD j default) (fun i => withS [(5, .int .i64 i)]) (fun i => xs.length - i))], ?_⟩
  have hlen : xs.length * 24 ≤ 140737488355328 := hfit.1
  clear hfit
  (repeat' (first | ((with_reducible refine body_intro ?_); (first | ((with_reducible refine seq_intro ?_ (fun Kv hN hX hR => ?_)); (next => exact rfl)) | ((with_reducible refine join_intro ?_ (fun Kv hN hX hR => ?_) ?_); (next => exact rfl)) | (conv => whnf))) | with_reducible refine body_stop (fun Kv hN hX hR => ?_) | with_reducible refine Stop.mk ?_ | with_reducible refine DrawJ.each ?_ | with_reducible exact SubJ.self _ | with_reducible refine SubJ.of ?_ | with_reducible refine fill2_step (fun Kf hF => ?_) | with_reducible refine fill2_nil ?_ | with_reducible refine node2_step (fun Kg hG => ?_) | (with_reducible refine hF _ _ ?_; clear hF; clear Kf) | (with_reducible refine hG _ _ _ _ ?_; clear hG; clear Kg) | ((with_reducible refine seq_intro ?_ (fun Kv hN hX hR => ?_)); (next => exact rfl)) | ((with_reducible refine join_intro ?_ (fun Kv hN hX hR => ?_) ?_); (next => exact rfl)) | (with_reducible refine hN _ ?_; (try (clear hG; clear Kg)); clear hN hX hR; clear Kv) | (with_reducible refine hX _ _ ?_; (try (clear hG; clear Kg)); clear hN hX hR; clear Kv) | (with_reducible refine hR _ ?_; (try (clear hG; clear Kg)); clear hN hX hR; clear Kv) | ((conv => whnf); first | with_reducible rfl | with_reducible exact True.intro | with_reducible refine (fun (_ : (_ : Prop)) => ?_) | with_reducible refine And.intro ?_ ?_ | (with_reducible refine hN _ ?_; (try (clear hG; clear Kg)); clear hN hX hR; clear Kv) | (with_reducible refine hX _ _ ?_; (try (clear hG; clear Kg)); clear hN hX hR; clear Kv) | (with_reducible refine hR _ ?_; (try (clear hG; clear Kg)); clear hN hX hR; clear Kv) | with_reducible refine body_stop (fun Kv hN hX hR => ?_) | with_reducible refine Stop.mk ?_ | with_reducible refine DrawJ.each ?_ | with_reducible exact SubJ.self _ | with_reducible refine SubJ.of ?_ | with_reducible refine fill2_step (fun Kf hF => ?_) | with_reducible refine fill2_nil ?_ | with_reducible refine node2_step (fun Kg hG => ?_) | (with_reducible refine hF _ _ ?_; clear hF; clear Kf) | (with_reducible refine hG _ _ _ _ ?_; clear hG; clear Kg)))); all_goals (conv => whnf); all_goals (repeat ((try (clear hG; clear Kg)); clear hN hX hR; clear Kv))
  all_goals first
    | (have h := of_decide_eq_false (nf (by with_reducible assumption))
       exact (decide_eq_false (fun e => h (by rw [e]))).symm)
    | (refine ⟨0, ⟨by omega, by intros; omega⟩, ?_⟩
       (repeat' (first | ((with_reducible refine body_intro ?_); (first | ((with_reducible refine seq_intro ?_ (fun Kv hN hX hR => ?_)); (next => exact rfl)) | ((with_reducible refine join_intro ?_ (fun Kv hN hX hR => ?_) ?_); (next => exact rfl)) | (conv => whnf))) | with_reducible refine body_stop (fun Kv hN hX hR => ?_) | with_reducible refine Stop.mk ?_ | with_reducible refine DrawJ.each ?_ | with_reducible exact SubJ.self _ | with_reducible refine SubJ.of ?_ | with_reducible refine fill2_step (fun Kf hF => ?_) | with_reducible refine fill2_nil ?_ | with_reducible refine node2_step (fun Kg hG => ?_) | (with_reducible refine hF _ _ ?_; clear hF; clear Kf) | (with_reducible refine hG _ _ _ _ ?_; clear hG; clear Kg) | ((with_reducible refine seq_intro ?_ (fun Kv hN hX hR => ?_)); (next => exact rfl)) | ((with_reducible refine join_intro ?_ (fun Kv hN hX hR => ?_) ?_); (next => exact rfl)) | (with_reducible refine hN _ ?_; (try (clear hG; clear Kg)); clear hN hX hR; clear Kv) | (with_reducible refine hX _ _ ?_; (try (clear hG; clear Kg)); clear hN hX hR; clear Kv) | (with_reducible refine hR _ ?_; (try (clear hG; clear Kg)); clear hN hX hR; clear Kv) | ((conv => whnf); first | with_reducible rfl | with_reducible exact True.intro | with_reducible intro _ | with_reducible refine And.intro ?_ ?_ | (with_reducible refine hN _ ?_; (try (clear hG; clear Kg)); clear hN hX hR; clear Kv) | (with_reducible refine hX _ _ ?_; (try (clear hG; clear Kg)); clear hN hX hR; clear Kv) | (with_reducible refine hR _ ?_; (try (clear hG; clear Kg)); clear hN hX hR; clear Kv) | with_reducible refine body_stop (fun Kv hN hX hR => ?_) | with_reducible refine Stop.mk ?_ | with_reducible refine DrawJ.each ?_ | with_reducible exact SubJ.self _ | with_reducible refine SubJ.of ?_ | with_reducible refine fill2_step (fun Kf hF => ?_) | with_reducible refine fill2_nil ?_ | with_reducible refine node2_step (fun Kg hG => ?_) | (with_reducible refine hF _ _ ?_; clear hF; clear Kf) | (with_reducible refine hG _ _ _ _ ?_; clear hG; clear Kg)))); all_goals (conv => whnf); all_goals (repeat ((try (clear hG; clear Kg)); clear hN hX hR; clear Kv))
       all_goals rfl)
    | (with_reducible intro i hi
       have hl : (xs.length : Int) = ys.length := of_decide_eq_true (nt (by with_reducible assumption))
       (repeat' (first | ((with_reducible refine body_intro ?_); (first | ((with_reducible refine seq_intro ?_ (fun Kv hN hX hR => ?_)); (next => exact rfl)) | ((with_reducible refine join_intro ?_ (fun Kv hN hX hR => ?_) ?_); (next => exact rfl)) | (conv => whnf))) | with_reducible refine body_stop (fun Kv hN hX hR => ?_) | with_reducible refine Stop.mk ?_ | with_reducible refine DrawJ.each ?_ | with_reducible exact SubJ.self _ | with_reducible refine SubJ.of ?_ | with_reducible refine fill2_step (fun Kf hF => ?_) | with_reducible refine fill2_nil ?_ | with_reducible refine node2_step (fun Kg hG => ?_) | (with_reducible refine hF _ _ ?_; clear hF; clear Kf) | (with_reducible refine hG _ _ _ _ ?_; clear hG; clear Kg) | ((with_reducible refine seq_intro ?_ (fun Kv hN hX hR => ?_)); (next => exact rfl)) | ((with_reducible refine join_intro ?_ (fun Kv hN hX hR => ?_) ?_); (next => exact rfl)) | (with_reducible refine hN _ ?_; (try (clear hG; clear Kg)); clear hN hX hR; clear Kv) | (with_reducible refine hX _ _ ?_; (try (clear hG; clear Kg)); clear hN hX hR; clear Kv) | (with_reducible refine hR _ ?_; (try (clear hG; clear Kg)); clear hN hX hR; clear Kv) | ((conv => whnf); first | with_reducible rfl | with_reducible exact True.intro | with_reducible intro _ | with_reducible refine And.intro ?_ ?_ | (with_reducible refine hN _ ?_; (try (clear hG; clear Kg)); clear hN hX hR; clear Kv) | (with_reducible refine hX _ _ ?_; (try (clear hG; clear Kg)); clear hN hX hR; clear Kv) | (with_reducible refine hR _ ?_; (try (clear hG; clear Kg)); clear hN hX hR; clear Kv) | with_reducible refine body_stop (fun Kv hN hX hR => ?_) | with_reducible refine Stop.mk ?_ | with_reducible refine DrawJ.each ?_ | with_reducible exact SubJ.self _ | with_reducible refine SubJ.of ?_ | with_reducible refine fill2_step (fun Kf hF => ?_) | with_reducible refine fill2_nil ?_ | with_reducible refine node2_step (fun Kg hG => ?_) | (with_reducible refine hF _ _ ?_; clear hF; clear Kf) | (with_reducible refine hG _ _ _ _ ?_; clear hG; clear Kg)))); all_goals (conv => whnf); all_goals (repeat ((try (clear hG; clear Kg)); clear hN hX hR; clear Kv))
       all_goals (try simp only [Int.toNat_natCast] at *)
       all_goals first
         | (have h := of_decide_eq_true (show decide ((i : Int) < (xs.length : Nat)) = true by with_reducible assumption)
            exact Ob.mk ⟨by omega, by omega⟩)
         | (have h := of_decide_eq_true (show decide ((i : Int) < (xs.length : Nat)) = true by with_reducible assumption)
            have h3 : ¬ (xs.getD i default = ys.getD i default) := by
              intro e
              simp_all
              done
            exact (decide_eq_false (fun e => h3 (by rw [e]))).symm)
         | (have h := of_decide_eq_true (show decide ((i : Int) < (xs.length : Nat)) = true by with_reducible assumption)
            have h3 : xs.getD i default = ys.getD i default := by
              simp only [Bool.not_eq_false', Bool.and_eq_true, decide_eq_true_eq] at *
              first
                | assumption
                | (rename_i h4; cases hx : xs.getD i default; cases hy : ys.getD i default; simp_all)
            refine ⟨i + 1, ⟨by omega, fun j hj => ?_⟩, by show xs.length - (i + 1) < xs.length - i; omega, ?_⟩
            · rcases Nat.lt_succ_iff_lt_or_eq.1 hj with h4 | h4
              · exact hi.2 j h4
              · subst h4; exact h3
            · (repeat' (first | ((with_reducible refine body_intro ?_); (first | ((with_reducible refine seq_intro ?_ (fun Kv hN hX hR => ?_)); (next => exact rfl)) | ((with_reducible refine join_intro ?_ (fun Kv hN hX hR => ?_) ?_); (next => exact rfl)) | (conv => whnf))) | with_reducible refine body_stop (fun Kv hN hX hR => ?_) | with_reducible refine Stop.mk ?_ | with_reducible refine DrawJ.each ?_ | with_reducible exact SubJ.self _ | with_reducible refine SubJ.of ?_ | with_reducible refine fill2_step (fun Kf hF => ?_) | with_reducible refine fill2_nil ?_ | with_reducible refine node2_step (fun Kg hG => ?_) | (with_reducible refine hF _ _ ?_; clear hF; clear Kf) | (with_reducible refine hG _ _ _ _ ?_; clear hG; clear Kg) | ((with_reducible refine seq_intro ?_ (fun Kv hN hX hR => ?_)); (next => exact rfl)) | ((with_reducible refine join_intro ?_ (fun Kv hN hX hR => ?_) ?_); (next => exact rfl)) | (with_reducible refine hN _ ?_; (try (clear hG; clear Kg)); clear hN hX hR; clear Kv) | (with_reducible refine hX _ _ ?_; (try (clear hG; clear Kg)); clear hN hX hR; clear Kv) | (with_reducible refine hR _ ?_; (try (clear hG; clear Kg)); clear hN hX hR; clear Kv) | ((conv => whnf); first | with_reducible rfl | with_reducible exact True.intro | with_reducible intro _ | with_reducible refine And.intro ?_ ?_ | (with_reducible refine hN _ ?_; (try (clear hG; clear Kg)); clear hN hX hR; clear Kv) | (with_reducible refine hX _ _ ?_; (try (clear hG; clear Kg)); clear hN hX hR; clear Kv) | (with_reducible refine hR _ ?_; (try (clear hG; clear Kg)); clear hN hX hR; clear Kv) | with_reducible refine body_stop (fun Kv hN hX hR => ?_) | with_reducible refine Stop.mk ?_ | with_reducible refine DrawJ.each ?_ | with_reducible exact SubJ.self _ | with_reducible refine SubJ.of ?_ | with_reducible refine fill2_step (fun Kf hF => ?_) | with_reducible refine fill2_nil ?_ | with_reducible refine node2_step (fun Kg hG => ?_) | (with_reducible refine hF _ _ ?_; clear hF; clear Kf) | (with_reducible refine hG _ _ _ _ ?_; clear hG; clear Kg)))); all_goals (conv => whnf); all_goals (repeat ((try (clear hG; clear Kg)); clear hN hX hR; clear Kv))
              all_goals first
                | exact wrapI (by omega) (by omega)
                | rfl)
         | (have h := of_decide_eq_false (show decide ((i : Int) < (xs.length : Nat)) = false by with_reducible assumption)
            exact (decide_eq_true (eq_of_take (d := default) (by omega) fun j hj => hi.2 j (by omega))).symm)
         | trace_state)
    | trace_state
end Go.Proofs.Ytaapoiikbolgnaa

/- Chapter 16: the laws' functions. -/
namespace Go.Proofs.Ytaapoiikbolgnaa
open Go.RowKit

theorem k_SameView : Known Try.prog tau 27 (S2 dView dView fun a b => okB (decide (a = b))) := by
  refine known2 hmix tau_ok (ctx_cons k_SamePeers (ctx_cons k_SameInts ctx_nil)) (fn := Try.f27) (by kernel_rfl) [] (by kernel_rfl) _ _ _ fun a b hfit => ⟨rfl, [], ?_⟩
  clear hfit
  (repeat' (first | ((with_reducible refine body_intro ?_); (first | ((with_reducible refine seq_intro ?_ (fun Kv hN hX hR => ?_)); (next => exact rfl)) | ((with_reducible refine join_intro ?_ (fun Kv hN hX hR => ?_) ?_); (next => exact rfl)) | (conv => whnf))) | with_reducible refine body_stop (fun Kv hN hX hR => ?_) | with_reducible refine Stop.mk ?_ | with_reducible refine DrawJ.each ?_ | with_reducible exact SubJ.self _ | with_reducible refine SubJ.of ?_ | with_reducible refine fill2_step (fun Kf hF => ?_) | with_reducible refine fill2_nil ?_ | with_reducible refine node2_step (fun Kg hG => ?_) | (with_reducible refine hF _ _ ?_; clear hF; clear Kf) | (with_reducible refine hG _ _ _ _ ?_; clear hG; clear Kg) | ((with_reducible refine seq_intro ?_ (fun Kv hN hX hR => ?_)); (next => exact rfl)) | ((with_reducible refine join_intro ?_ (fun Kv hN hX hR => ?_) ?_); (next => exact rfl)) | (with_reducible refine hN _ ?_; (try (clear hG; clear Kg)); clear hN hX hR; clear Kv) | (with_reducible refine hX _ _ ?_; (try (clear hG; clear Kg)); clear hN hX hR; clear Kv) | (with_reducible refine hR _ ?_; (try (clear hG; clear Kg)); clear hN hX hR; clear Kv) | ((conv => whnf); first | with_reducible rfl | with_reducible exact True.intro | with_reducible intro _ | with_reducible refine And.intro ?_ ?_ | (with_reducible refine hN _ ?_; (try (clear hG; clear Kg)); clear hN hX hR; clear Kv) | (with_reducible refine hX _ _ ?_; (try (clear hG; clear Kg)); clear hN hX hR; clear Kv) | (with_reducible refine hR _ ?_; (try (clear hG; clear Kg)); clear hN hX hR; clear Kv) | with_reducible refine body_stop (fun Kv hN hX hR => ?_) | with_reducible refine Stop.mk ?_ | with_reducible refine DrawJ.each ?_ | with_reducible exact SubJ.self _ | with_reducible refine SubJ.of ?_ | with_reducible refine fill2_step (fun Kf hF => ?_) | with_reducible refine fill2_nil ?_ | with_reducible refine node2_step (fun Kg hG => ?_) | (with_reducible refine hF _ _ ?_; clear hF; clear Kf) | (with_reducible refine hG _ _ _ _ ?_; clear hG; clear Kg)))); all_goals (conv => whnf); all_goals (repeat ((try (clear hG; clear Kg)); clear hN hX hR; clear Kv))
  all_goals (cases a; cases b; simp_all)
theorem k_SameNode : Known Try.prog tau 15 (S2 dNode dNode fun a b => okB (decide (a = b))) := by
  refine known2 hmix tau_ok (ctx_cons k_SameView (ctx_cons k_SameItems (ctx_cons k_SameTolds ctx_nil))) (fn := Try.f15) (by kernel_rfl) [] (by kernel_rfl) _ _ _ fun a b hfit => ⟨rfl, [], ?_⟩
  clear hfit
  (repeat' (first | ((with_reducible refine body_intro ?_); (first | ((with_reducible refine seq_intro ?_ (fun Kv hN hX hR => ?_)); (next => exact rfl)) | ((with_reducible refine join_intro ?_ (fun Kv hN hX hR => ?_) ?_); (next => exact rfl)) | (conv => whnf))) | with_reducible refine body_stop (fun Kv hN hX hR => ?_) | with_reducible refine Stop.mk ?_ | with_reducible refine DrawJ.each ?_ | with_reducible exact SubJ.self _ | with_reducible refine SubJ.of ?_ | with_reducible refine fill2_step (fun Kf hF => ?_) | with_reducible refine fill2_nil ?_ | with_reducible refine node2_step (fun Kg hG => ?_) | (with_reducible refine hF _ _ ?_; clear hF; clear Kf) | (with_reducible refine hG _ _ _ _ ?_; clear hG; clear Kg) | ((with_reducible refine seq_intro ?_ (fun Kv hN hX hR => ?_)); (next => exact rfl)) | ((with_reducible refine join_intro ?_ (fun Kv hN hX hR => ?_) ?_); (next => exact rfl)) | (with_reducible refine hN _ ?_; (try (clear hG; clear Kg)); clear hN hX hR; clear Kv) | (with_reducible refine hX _ _ ?_; (try (clear hG; clear Kg)); clear hN hX hR; clear Kv) | (with_reducible refine hR _ ?_; (try (clear hG; clear Kg)); clear hN hX hR; clear Kv) | ((conv => whnf); first | with_reducible rfl | with_reducible exact True.intro | with_reducible intro _ | with_reducible refine And.intro ?_ ?_ | (with_reducible refine hN _ ?_; (try (clear hG; clear Kg)); clear hN hX hR; clear Kv) | (with_reducible refine hX _ _ ?_; (try (clear hG; clear Kg)); clear hN hX hR; clear Kv) | (with_reducible refine hR _ ?_; (try (clear hG; clear Kg)); clear hN hX hR; clear Kv) | with_reducible refine body_stop (fun Kv hN hX hR => ?_) | with_reducible refine Stop.mk ?_ | with_reducible refine DrawJ.each ?_ | with_reducible exact SubJ.self _ | with_reducible refine SubJ.of ?_ | with_reducible refine fill2_step (fun Kf hF => ?_) | with_reducible refine fill2_nil ?_ | with_reducible refine node2_step (fun Kg hG => ?_) | (with_reducible refine hF _ _ ?_; clear hF; clear Kf) | (with_reducible refine hG _ _ _ _ ?_; clear hG; clear Kg)))); all_goals (conv => whnf); all_goals (repeat ((try (clear hG; clear Kg)); clear hN hX hR; clear Kv))
  all_goals (rcases a with ⟨a1, ⟨a2, a3, a4⟩, a5, a6⟩; rcases b with ⟨b1, ⟨b2, b3, b4⟩, b5, b6⟩; simp_all)
def itI (k c : Int) : GItem := ⟨k, ⟨c, 1⟩, bits .and .i64 c 255, false⟩
theorem k_it : Known Try.prog tau 23 (S2 dInt dInt fun k c => .ok (.agg [.int .i64 k, .int .i64 c, .int .i64 1, .int .i64 (bits .and .i64 c 255), .bool false]) []) := by
  refine known2 hmix tau_ok ctx_nil (fn := Try.f23) (by kernel_rfl) [] (by kernel_rfl) _ _ _ fun k c hfit => ⟨rfl, [], ?_⟩
  clear hfit
  (repeat' (first | ((with_reducible refine body_intro ?_); (first | ((with_reducible refine seq_intro ?_ (fun Kv hN hX hR => ?_)); (next => exact rfl)) | ((with_reducible refine join_intro ?_ (fun Kv hN hX hR => ?_) ?_); (next => exact rfl)) | (conv => whnf))) | with_reducible refine body_stop (fun Kv hN hX hR => ?_) | with_reducible refine Stop.mk ?_ | with_reducible refine DrawJ.each ?_ | with_reducible exact SubJ.self _ | with_reducible refine SubJ.of ?_ | with_reducible refine fill2_step (fun Kf hF => ?_) | with_reducible refine fill2_nil ?_ | with_reducible refine node2_step (fun Kg hG => ?_) | (with_reducible refine hF _ _ ?_; clear hF; clear Kf) | (with_reducible refine hG _ _ _ _ ?_; clear hG; clear Kg) | ((with_reducible refine seq_intro ?_ (fun Kv hN hX hR => ?_)); (next => exact rfl)) | ((with_reducible refine join_intro ?_ (fun Kv hN hX hR => ?_) ?_); (next => exact rfl)) | (with_reducible refine hN _ ?_; (try (clear hG; clear Kg)); clear hN hX hR; clear Kv) | (with_reducible refine hX _ _ ?_; (try (clear hG; clear Kg)); clear hN hX hR; clear Kv) | (with_reducible refine hR _ ?_; (try (clear hG; clear Kg)); clear hN hX hR; clear Kv) | ((conv => whnf); first | with_reducible rfl | with_reducible exact True.intro | with_reducible intro _ | with_reducible refine And.intro ?_ ?_ | (with_reducible refine hN _ ?_; (try (clear hG; clear Kg)); clear hN hX hR; clear Kv) | (with_reducible refine hX _ _ ?_; (try (clear hG; clear Kg)); clear hN hX hR; clear Kv) | (with_reducible refine hR _ ?_; (try (clear hG; clear Kg)); clear hN hX hR; clear Kv) | with_reducible refine body_stop (fun Kv hN hX hR => ?_) | with_reducible refine Stop.mk ?_ | with_reducible refine DrawJ.each ?_ | with_reducible exact SubJ.self _ | with_reducible refine SubJ.of ?_ | with_reducible refine fill2_step (fun Kf hF => ?_) | with_reducible refine fill2_nil ?_ | with_reducible refine node2_step (fun Kg hG => ?_) | (with_reducible refine hF _ _ ?_; clear hF; clear Kf) | (with_reducible refine hG _ _ _ _ ?_; clear hG; clear Kg)))); all_goals (conv => whnf); all_goals (repeat ((try (clear hG; clear Kg)); clear hN hX hR; clear Kv))
  all_goals rfl
end Go.Proofs.Ytaapoiikbolgnaa

/- Chapter 16: the laws' functions: awake. -/
namespace Go.Proofs.Ytaapoiikbolgnaa
open Go.RowKit

def n100 : GNode := ⟨true, ⟨100, [⟨101, 2⟩, ⟨200, 0⟩, ⟨90, 1⟩], [7]⟩, [⟨95, ⟨1, 1⟩, 1, false⟩, ⟨99, ⟨3, 1⟩, 3, false⟩, ⟨250, ⟨2, 1⟩, 2, false⟩], []⟩
def nOwn (n : GNode) : List SV := [.bool n.up, .int .i64 n.view.id, .own 0, .own 1, .own 2, .row .new (.tolds n.log)]
theorem k_node100 : Known Try.prog tau 22 (S0 (.ok (.agg (nOwn n100)) [.peers n100.view.peers, .ints n100.view.passive, .items n100.items])) := by
  refine known0 hmix tau_ok (ctx_cons k_it ctx_nil) (fn := Try.f22) (by kernel_rfl) [] (by kernel_rfl) _ fun hfit => ⟨rfl, [], ?_⟩
  clear hfit
  (repeat' (first | ((with_reducible refine body_intro ?_); (first | ((with_reducible refine seq_intro ?_ (fun Kv hN hX hR => ?_)); (next => exact rfl)) | ((with_reducible refine join_intro ?_ (fun Kv hN hX hR => ?_) ?_); (next => exact rfl)) | (conv => whnf))) | with_reducible refine body_stop (fun Kv hN hX hR => ?_) | with_reducible refine Stop.mk ?_ | with_reducible refine DrawJ.each ?_ | with_reducible exact SubJ.self _ | with_reducible refine SubJ.of ?_ | with_reducible refine fill2_step (fun Kf hF => ?_) | with_reducible refine fill2_nil ?_ | with_reducible refine node2_step (fun Kg hG => ?_) | (with_reducible refine hF _ _ ?_; clear hF; clear Kf) | (with_reducible refine hG _ _ _ _ ?_; clear hG; clear Kg) | ((with_reducible refine seq_intro ?_ (fun Kv hN hX hR => ?_)); (next => exact rfl)) | ((with_reducible refine join_intro ?_ (fun Kv hN hX hR => ?_) ?_); (next => exact rfl)) | (with_reducible refine hN _ ?_; (try (clear hG; clear Kg)); clear hN hX hR; clear Kv) | (with_reducible refine hX _ _ ?_; (try (clear hG; clear Kg)); clear hN hX hR; clear Kv) | (with_reducible refine hR _ ?_; (try (clear hG; clear Kg)); clear hN hX hR; clear Kv) | ((conv => whnf); first | with_reducible rfl | with_reducible exact True.intro | with_reducible intro _ | with_reducible refine And.intro ?_ ?_ | (with_reducible refine hN _ ?_; (try (clear hG; clear Kg)); clear hN hX hR; clear Kv) | (with_reducible refine hX _ _ ?_; (try (clear hG; clear Kg)); clear hN hX hR; clear Kv) | (with_reducible refine hR _ ?_; (try (clear hG; clear Kg)); clear hN hX hR; clear Kv) | with_reducible refine body_stop (fun Kv hN hX hR => ?_) | with_reducible refine Stop.mk ?_ | with_reducible refine DrawJ.each ?_ | with_reducible exact SubJ.self _ | with_reducible refine SubJ.of ?_ | with_reducible refine fill2_step (fun Kf hF => ?_) | with_reducible refine fill2_nil ?_ | with_reducible refine node2_step (fun Kg hG => ?_) | (with_reducible refine hF _ _ ?_; clear hF; clear Kf) | (with_reducible refine hG _ _ _ _ ?_; clear hG; clear Kg)))); all_goals (conv => whnf); all_goals (repeat ((try (clear hG; clear Kg)); clear hN hX hR; clear Kv))
  all_goals first
    | (refine Ob.mk ?_; decide)
    | rfl
    | trace_state
/-- The same, to be reckoned. -/
def withC (l : List Int) (x : Int) : List Int × Int := if passB l = true ∧ placeB x = true then (if hasI l x = true then (l, (0 : Int)) else if l.length = 16 then ([], 801) else (insP l x, 0)) else ([], 800)
def newC (id : Int) : List Int → List Int → Option (List Int)
  | acc, [] => some acc
  | acc, y :: ys => if y = id then newC id acc ys else if (withC acc y).2 = 0 then newC id (withC acc y).1 ys else none
def nodeC (id : Int) (ids : List Int) : GNode × Int := if placeB id = true then (match newC id [] ids with
  | some l => ((⟨true, ⟨id, [], l⟩, [], []⟩ : GNode), (0 : Int))
  | none => (nodeZ, 1600)) else (nodeZ, 1600)
theorem withC_eq (l : List Int) (x : Int) : withP l x = withC l x := withP_def l x
theorem newC_eq (id : Int) : ∀ (ids acc : List Int), newP id acc ids = newC id acc ids
  | [], acc => rfl
  | y :: ys, acc => by
    unfold newP newC
    rw [withC_eq, newC_eq id ys, newC_eq id ys]
theorem nodeC_eq (id : Int) (ids : List Int) : newN id ids = nodeC id ids := by
  rw [newN_def, newC_eq]
  rfl
theorem aw16_a : newN 5 [9, 5, 3, 9] = (⟨true, ⟨5, [], [3, 9]⟩, [], []⟩, 0) := by rw [nodeC_eq]; decide
theorem aw16_b : newN 256 [] = (nodeZ, 1600) := by rw [nodeC_eq]; decide
theorem aw16_c : newN 5 [-1] = (nodeZ, 1600) := by rw [nodeC_eq]; decide
theorem n100_may : nodeB n100 = true := by decide
theorem aw16_d : nodeB ⟨false, ⟨9, [], []⟩, [], []⟩ = true := by decide
theorem aw16_e : nodeB ⟨false, ⟨9, [], []⟩, [], [⟨0, false, 0⟩]⟩ = false := by decide
set_option maxHeartbeats 1000000 in
theorem k_awake16 : Known Try.prog tau 21 (S0 (okB true)) := by
  refine known0 hmix tau_ok (ctx_cons k_New (ctx_cons k_SameNode (ctx_cons k_Num (ctx_cons k_nodeMay (ctx_cons k_node100 ctx_nil))))) (fn := Try.f21) (by kernel_rfl) [] (by kernel_rfl) _ fun hfit => ⟨rfl, [], ?_⟩
  clear hfit
  (repeat' (first | ((with_reducible refine body_intro ?_); (first | ((with_reducible refine seq_intro ?_ (fun Kv hN hX hR => ?_)); (next => exact rfl)) | ((with_reducible refine join_intro ?_ (fun Kv hN hX hR => ?_) ?_); (next => exact rfl)) | (conv => whnf))) | with_reducible refine body_stop (fun Kv hN hX hR => ?_) | with_reducible refine Stop.mk ?_ | with_reducible refine DrawJ.each ?_ | with_reducible exact SubJ.self _ | with_reducible refine SubJ.of ?_ | with_reducible refine fill2_step (fun Kf hF => ?_) | with_reducible refine fill2_nil ?_ | with_reducible refine node2_step (fun Kg hG => ?_) | (with_reducible refine hF _ _ ?_; clear hF; clear Kf) | (with_reducible refine hG _ _ _ _ ?_; clear hG; clear Kg) | ((with_reducible refine seq_intro ?_ (fun Kv hN hX hR => ?_)); (next => exact rfl)) | ((with_reducible refine join_intro ?_ (fun Kv hN hX hR => ?_) ?_); (next => exact rfl)) | (with_reducible refine hN _ ?_; (try (clear hG; clear Kg)); clear hN hX hR; clear Kv) | (with_reducible refine hX _ _ ?_; (try (clear hG; clear Kg)); clear hN hX hR; clear Kv) | (with_reducible refine hR _ ?_; (try (clear hG; clear Kg)); clear hN hX hR; clear Kv) | ((conv => whnf); first | with_reducible rfl | with_reducible exact True.intro | with_reducible intro _ | with_reducible refine And.intro ?_ ?_ | (with_reducible refine hN _ ?_; (try (clear hG; clear Kg)); clear hN hX hR; clear Kv) | (with_reducible refine hX _ _ ?_; (try (clear hG; clear Kg)); clear hN hX hR; clear Kv) | (with_reducible refine hR _ ?_; (try (clear hG; clear Kg)); clear hN hX hR; clear Kv) | with_reducible refine body_stop (fun Kv hN hX hR => ?_) | with_reducible refine Stop.mk ?_ | with_reducible refine DrawJ.each ?_ | with_reducible exact SubJ.self _ | with_reducible refine SubJ.of ?_ | with_reducible refine fill2_step (fun Kf hF => ?_) | with_reducible refine fill2_nil ?_ | with_reducible refine node2_step (fun Kg hG => ?_) | (with_reducible refine hF _ _ ?_; clear hF; clear Kf) | (with_reducible refine hG _ _ _ _ ?_; clear hG; clear Kg)))); all_goals (conv => whnf); all_goals (repeat ((try (clear hG; clear Kg)); clear hN hX hR; clear Kv))
  all_goals (try simp only [etaNode, aw16_a, aw16_b, aw16_c, aw16_d, aw16_e, n100_may] at *)
  all_goals first
    | (refine Ob.mk ?_; decide)
    | (simp_all; done)
    | rfl
    | trace_state
end Go.Proofs.Ytaapoiikbolgnaa

/- Chapter 16: a node that is down. -/
namespace Go.Proofs.Ytaapoiikbolgnaa
open Go.RowKit

theorem placeB_iff {x : Int} : placeB x = true ↔ 0 ≤ x ∧ x < 256 := by simp [placeB]
theorem nd_x {k : Int} (hk : placeB k = true) : nodeB ⟨false, ⟨k, [], []⟩, [], []⟩ = true := by
  simp [nodeB, viewB, peersB, passB, storeB, hk]
theorem nd_zv {k : Int} (hk : placeB k = true) : viewB ⟨k, [], []⟩ = true := by simp [viewB, peersB, passB, hk]
theorem nd_z0 {k w : Int} (hk : placeB k = true) (hw : placeB w = true) (h : w ≠ k) : nodeB ⟨true, ⟨k, [⟨w, 0⟩], []⟩, [], []⟩ = true := by
  have hp : peerB k ⟨w, 0⟩ = true := by
    have := (far_pos hk hw).1.2 h
    simp [peerB, hw, this]
  simp [nodeB, viewB, peersB, passB, storeB, hk, hp]
theorem nd_z1 {k w : Int} (hk : placeB k = true) (hw : placeB w = true) (h : w ≠ k) : nodeB ⟨true, ⟨k, [], [w]⟩, [], []⟩ = true := by
  simp [nodeB, viewB, peersB, passB, storeB, hk, hw, oddV, hasP, h]
theorem nd_z2 {k : Int} (hk : placeB k = true) {i : GItem} (hi : itemB i = true) : nodeB ⟨true, ⟨k, [], []⟩, [i], []⟩ = true := by
  simp [nodeB, viewB, peersB, passB, storeB, hk, hi]
theorem nd_z3 {k : Int} (hk : placeB k = true) {t : GTold} (ht : toldB t = true) : nodeB ⟨true, ⟨k, [], []⟩, [], [t]⟩ = true := by
  simp [nodeB, viewB, peersB, passB, storeB, hk, ht]
theorem nd_y {x : GNode} (h : x.up = false) (h2 : x.view.peers.length + x.view.passive.length + x.items.length + x.log.length ≠ 0) : nodeB x = false := by
  rw [nodeB_down h, decide_eq_false h2, Bool.false_and]
theorem k_NodeDown : Known Try.prog tau 6 (S2 dInt dInt fun a b => okB true) := by
  refine known2 hmix tau_ok (ctx_cons k_awake16 (ctx_cons k_it (ctx_cons k_nodeMay (ctx_cons k_Num (ctx_cons k_node100 ctx_nil))))) (fn := Try.f6) (by kernel_rfl) [] (by kernel_rfl) _ _ _ fun a b hfit => ⟨rfl, [], ?_⟩
  clear hfit
  have hk : placeB (bits .and .i64 a 255) = true := by rw [placeB_iff, and255]; omega
  have hw : placeB (bits .and .i64 (IntKind.i64.wrap (bits .and .i64 a 255 + 1)) 255) = true := by rw [placeB_iff, and255]; omega
  have hne : bits .and .i64 (IntKind.i64.wrap (bits .and .i64 a 255 + 1)) 255 ≠ bits .and .i64 a 255 := by
    rw [and255 (IntKind.i64.wrap _), and255, wrapI (by omega) (by omega)]
    omega
  have e0 := nd_x hk
  have e1 := nd_z0 hk hw hne
  have e2 := nd_z1 hk hw hne
  have e3 := nd_z2 (i := ⟨3, ⟨1, 1⟩, bits .and .i64 1 255, false⟩) hk (by decide)
  have e4 := nd_z3 (t := ⟨0, false, 0⟩) hk (by decide)
  have y1 : nodeB ⟨false, ⟨bits .and .i64 a 255, [⟨bits .and .i64 (IntKind.i64.wrap (bits .and .i64 a 255 + 1)) 255, 0⟩], []⟩, [], []⟩ = false := nd_y rfl (by simp)
  have y2 : nodeB ⟨false, ⟨bits .and .i64 a 255, [], [bits .and .i64 (IntKind.i64.wrap (bits .and .i64 a 255 + 1)) 255]⟩, [], []⟩ = false := nd_y rfl (by simp)
  have y3 : nodeB ⟨false, ⟨bits .and .i64 a 255, [], []⟩, [⟨3, ⟨1, 1⟩, bits .and .i64 1 255, false⟩], []⟩ = false := nd_y rfl (by simp)
  have y4 : nodeB ⟨false, ⟨bits .and .i64 a 255, [], []⟩, [], [⟨0, false, 0⟩]⟩ = false := nd_y rfl (by simp)
  have hl : decide ((n100.items.length : Int) = 3) = true := by decide
  (repeat' (first | ((with_reducible refine body_intro ?_); (first | ((with_reducible refine seq_intro ?_ (fun Kv hN hX hR => ?_)); (next => exact rfl)) | ((with_reducible refine join_intro ?_ (fun Kv hN hX hR => ?_) ?_); (next => exact rfl)) | (conv => whnf))) | with_reducible refine body_stop (fun Kv hN hX hR => ?_) | with_reducible refine Stop.mk ?_ | with_reducible refine DrawJ.each ?_ | with_reducible exact SubJ.self _ | with_reducible refine SubJ.of ?_ | with_reducible refine fill2_step (fun Kf hF => ?_) | with_reducible refine fill2_nil ?_ | with_reducible refine node2_step (fun Kg hG => ?_) | (with_reducible refine hF _ _ ?_; clear hF; clear Kf) | (with_reducible refine hG _ _ _ _ ?_; clear hG; clear Kg) | ((with_reducible refine seq_intro ?_ (fun Kv hN hX hR => ?_)); (next => exact rfl)) | ((with_reducible refine join_intro ?_ (fun Kv hN hX hR => ?_) ?_); (next => exact rfl)) | (with_reducible refine hN _ ?_; (try (clear hG; clear Kg)); clear hN hX hR; clear Kv) | (with_reducible refine hX _ _ ?_; (try (clear hG; clear Kg)); clear hN hX hR; clear Kv) | (with_reducible refine hR _ ?_; (try (clear hG; clear Kg)); clear hN hX hR; clear Kv) | ((conv => whnf); first | with_reducible rfl | with_reducible exact True.intro | with_reducible intro _ | with_reducible refine And.intro ?_ ?_ | (with_reducible refine hN _ ?_; (try (clear hG; clear Kg)); clear hN hX hR; clear Kv) | (with_reducible refine hX _ _ ?_; (try (clear hG; clear Kg)); clear hN hX hR; clear Kv) | (with_reducible refine hR _ ?_; (try (clear hG; clear Kg)); clear hN hX hR; clear Kv) | with_reducible refine body_stop (fun Kv hN hX hR => ?_) | with_reducible refine Stop.mk ?_ | with_reducible refine DrawJ.each ?_ | with_reducible exact SubJ.self _ | with_reducible refine SubJ.of ?_ | with_reducible refine fill2_step (fun Kf hF => ?_) | with_reducible refine fill2_nil ?_ | with_reducible refine node2_step (fun Kg hG => ?_) | (with_reducible refine hF _ _ ?_; clear hF; clear Kf) | (with_reducible refine hG _ _ _ _ ?_; clear hG; clear Kg)))); all_goals (conv => whnf); all_goals (repeat ((try (clear hG; clear Kg)); clear hN hX hR; clear Kv))
  all_goals first
    | exact hl
    | (refine Ob.mk ?_; decide)
    | (simp only [e0, e1, e2, e3, e4, y1, y2, y3, y4, decide_true, Bool.not_true, Bool.not_false, Bool.false_eq_true, Bool.true_eq_false, reduceCtorEq] at *
       done)
    | (simp_all
       done)
    | trace_state
end Go.Proofs.Ytaapoiikbolgnaa

/- Chapter 16: a new node knows just whom it is told. -/
namespace Go.Proofs.Ytaapoiikbolgnaa
open Go.RowKit

theorem passB_insP {l : List Int} {x : Int} (h : passB l = true) (hx : placeB x = true) (hn : hasI l x = false) (hl : l.length ≠ 16) : passB (insP l x) = true := by
  rw [passB_iff] at h ⊢
  refine ⟨by rw [insP_len]; omega, ?_, ?_⟩
  · rw [rising_iff]
    refine asc_insP (rising_iff.1 h.2.1) fun hm => ?_
    rw [hasI_iff.2 hm] at hn
    exact absurd hn (by simp)
  · intro y hy
    rcases mem_insP.1 hy with rfl | hy
    · exact hx
    · exact h.2.2 y hy
theorem newP_ok {k : Int} : ∀ {xs acc : List Int}, xs.all placeB = true → passB acc = true → k ∉ acc → acc.length + xs.length ≤ 16 →
    ∃ l, newP k acc xs = some l ∧ passB l = true ∧ l.length ≤ acc.length + xs.length ∧ ∀ y, y ∈ l ↔ y ∈ acc ∨ (y ∈ xs ∧ y ≠ k)
  | [], acc, _, h, _, _ => ⟨acc, rfl, h, by simp, fun y => by simp⟩
  | x :: xs, acc, hx, h, hk, hl => by
    rw [List.all_cons, Bool.and_eq_true] at hx
    simp only [List.length_cons] at hl ⊢
    by_cases hxk : x = k
    · obtain ⟨l, h1, h2, h3, h4⟩ := newP_ok (xs := xs) (acc := acc) hx.2 h hk (by omega)
      refine ⟨l, by rw [newP, if_pos hxk]; exact h1, h2, by omega, fun y => ?_⟩
      rw [h4]
      constructor
      · rintro (h | ⟨h, h'⟩)
        · exact .inl h
        · exact .inr ⟨List.mem_cons_of_mem _ h, h'⟩
      · rintro (h | ⟨h, h'⟩)
        · exact .inl h
        · rcases List.mem_cons.1 h with rfl | h
          · exact absurd hxk h'
          · exact .inr ⟨h, h'⟩
    · cases hh : hasI acc x with
      | true =>
        have hw := withP_has h hx.1 hh
        obtain ⟨l, h1, h2, h3, h4⟩ := newP_ok (xs := xs) (acc := acc) hx.2 h hk (by omega)
        refine ⟨l, by rw [newP, if_neg hxk, hw]; exact h1, h2, by omega, fun y => ?_⟩
        rw [h4]
        constructor
        · rintro (h | ⟨h, h'⟩)
          · exact .inl h
          · exact .inr ⟨List.mem_cons_of_mem _ h, h'⟩
        · rintro (h | ⟨h, h'⟩)
          · exact .inl h
          · rcases List.mem_cons.1 h with rfl | h
            · exact .inl (hasI_iff.1 hh)
            · exact .inr ⟨h, h'⟩
      | false =>
        have hw := withP_yes h hx.1 hh (by omega)
        obtain ⟨l, h1, h2, h3, h4⟩ := newP_ok (xs := xs) (acc := insP acc x) hx.2 (passB_insP h hx.1 hh (by omega)) (fun hm => by
          rcases mem_insP.1 hm with e | hm
          · exact hxk e.symm
          · exact hk hm) (by rw [insP_len]; omega)
        rw [insP_len] at h3
        refine ⟨l, by rw [newP, if_neg hxk, hw]; exact h1, h2, by omega, fun y => ?_⟩
        rw [h4, mem_insP]
        constructor
        · rintro ((rfl | h) | ⟨h, h'⟩)
          · exact .inr ⟨List.mem_cons_self, hxk⟩
          · exact .inl h
          · exact .inr ⟨List.mem_cons_of_mem _ h, h'⟩
        · rintro (h | ⟨h, h'⟩)
          · exact .inl (.inr h)
          · rcases List.mem_cons.1 h with rfl | h
            · exact .inl (.inl rfl)
            · exact .inr ⟨h, h'⟩
/-- What it is told of. -/
def nnL (ids : List Int) (n : Nat) : List Int := (ids.take n).map fun x => bits .and .i64 x 255
theorem nnL_len (ids : List Int) (n : Nat) : (nnL ids n).length = min n ids.length := by simp [nnL]
theorem nnL_succ {ids : List Int} {i : Nat} (h : i < ids.length) : nnL ids (i + 1) = nnL ids i ++ [bits .and .i64 (ids.getD i 0) 255] := by
  unfold nnL
  rw [List.take_succ_eq_append_getElem h, List.map_append]
  simp [List.getD_eq_getElem?_getD, h]
theorem nnL_place (ids : List Int) (n : Nat) : (nnL ids n).all placeB = true := by
  rw [List.all_eq_true]
  intro x hx
  obtain ⟨y, _, rfl⟩ := List.mem_map.1 hx
  rw [placeB_iff, and255]
  omega
theorem newN_ok {k : Int} {ids : List Int} (hk : placeB k = true) : ∃ l, newN k (nnL ids 14) = (⟨true, ⟨k, [], l⟩, [], []⟩, 0) ∧ nodeB ⟨true, ⟨k, [], l⟩, [], []⟩ = true ∧ l.length ≤ (nnL ids 14).length ∧ ∀ y, y ∈ l ↔ (y ∈ nnL ids 14 ∧ y ≠ k) := by
  have hl := nnL_len ids 14
  obtain ⟨l, h1, h2, h3, h4⟩ := newP_ok (k := k) (acc := []) (nnL_place ids 14) (by decide) (by simp) (by simp; omega)
  refine ⟨l, newN_yes hk h1, ?_, by simpa using h3, fun y => by simpa using h4 y⟩
  have h5 := (passB_iff.1 h2).1
  have h6 : viewB ⟨k, [], l⟩ = true := by
    rw [viewB_iff]
    refine ⟨by simp [peersB, hk], h2, by simpa using h5, ?_⟩
    rw [List.any_eq_false]
    intro x hx
    have := ((h4 x).1 hx)
    simp at this
    simp [oddV, hasP, this.2]
  simp [nodeB, h6, storeB]
theorem nnL_all {ids : List Int} {i : Nat} (h : ¬ (i : Int) < (ids.length : Nat) ∨ ¬ (i : Int) < 14) (h1 : i ≤ 14) (h2 : i ≤ ids.length) : nnL ids i = nnL ids 14 := by
  rcases h with h | h
  · unfold nnL
    rw [List.take_of_length_le (by omega), List.take_of_length_le (by omega)]
  · rw [show i = 14 by omega]
theorem hasI_succ {l : List Int} {j : Nat} {x : Int} (h : j < l.length) : hasI (l.take (j + 1)) x = (hasI (l.take j) x || decide (l.getD j 0 = x)) := by
  unfold hasI
  rw [List.take_succ_eq_append_getElem h, List.any_append]
  simp [List.getD_eq_getElem?_getD, h]
theorem new_has {l : List Int} {ids : List Int} {k : Int} {i : Nat} (h4 : ∀ y, y ∈ l ↔ (y ∈ nnL ids 14 ∧ y ≠ k)) (hi : i < (nnL ids 14).length) : hasI l ((nnL ids 14).getD i 0) = !decide ((nnL ids 14).getD i 0 = k) := by
  have hm := getD_mem (d := 0) hi
  generalize (nnL ids 14).getD i 0 = x at hm
  cases h : hasI l x with
  | true =>
    have := (h4 x).1 (hasI_iff.1 h)
    simp [this.2]
  | false =>
    have : ¬ x ∈ l := fun e => by rw [hasI_iff.2 e] at h; simp at h
    have h5 : x = k := Classical.byContradiction fun e => this ((h4 x).2 ⟨hm, e⟩)
    simp [h5]
set_option maxHeartbeats 4000000 in
theorem k_NodeNew : Known Try.prog tau 5 (S2 dInt dInts fun a b => okB true) := by
  refine known2 hmix tau_ok (ctx_cons k_awake16 (ctx_cons k_it (ctx_cons k_nodeMay (ctx_cons k_Num (ctx_cons k_node100 (ctx_cons k_New (ctx_cons k_refNode ctx_nil))))))) (fn := Try.f5) (by kernel_rfl) [(19, [(0, 0), (1, 1), (2, 2), (3, 6), (4, 10), (5, 2), (6, 50), (7, 66), (8, 2), (9, 2), (10, 770), (11, 1026), (12, 2178), (13, 4098), (14, 16383)])] (by kernel_rfl) _ _ _ fun a ids hfit => ⟨rfl,
    [(6, invX Nat [6, 7, 17, 18, 19, 20, 21, 22, 23, 24, 25, 26, 27, 28, 29, 30, 31, 32, 33, 34] [] (fun i => i ≤ 14 ∧ i ≤ ids.length) (fun i => match i with
      | 0 => withS [(7, .int .i64 0), (6, .nilS (.ints []))]
      | i + 1 => fun st => withS [(7, .int .i64 ((i + 1 : Nat) : Int)), (6, .own 34)] (withR [(34, .own (.ints (nnL ids (i + 1))))] st)) (fun i => 14 - i)),
     (1000009, invF Unit [] (4 :: [6, 7, 17, 18, 19, 20, 21, 22, 23, 24, 25, 26, 27, 28, 29, 30, 31, 32, 33, 34]) [] (fun _ => True) (fun _ st => withS [(6, .row .any (.ints (nnL ids 14)))] st) (fun _ => 0)),
     (13, invN (4 :: 10 :: 11 :: 12 :: 81 :: 82 :: 83 :: 84 :: 85 :: 86 :: 87 :: 88 :: 89 :: 90 :: 91 :: 92 :: 93 :: 94 :: 95 :: 96 :: 97 :: 98 :: 99 :: 100 :: 101 :: 102 :: 103 :: 104 :: 105 :: 106 :: 107 :: 108 :: 109 :: 110 :: 111 :: 112 :: 113 :: 114 :: 115 :: 116 :: []) (fun i => i ≤ (nnL ids 14).length) (fun i => withS [(10, .int .i64 i)]) (fun i => (nnL ids 14).length - i)),
     (17, invX Nat [11, 12, 87, 88, 89, 90, 91, 92, 93, 94, 95, 96, 97, 98, 99, 100, 101, 102, 103, 104, 105, 106, 107, 108] [] (fun j => j ≤ (newN (bits .and .i64 a 255) (nnL ids 14)).1.view.passive.length) (fun j s => match lkv s.fr 10 with
       | .int _ n => withS [(12, .int .i64 j), (11, .bool (hasI ((newN (bits .and .i64 a 255) (nnL ids 14)).1.view.passive.take j) ((nnL ids 14).getD n.toNat 0)))] s
       | _ => s) (fun j => (newN (bits .and .i64 a 255) (nnL ids 14)).1.view.passive.length - j))], ?_⟩
  have hlen : ids.length * 8 ≤ 140737488355328 := hfit.2.1
  clear hfit
  have hk : placeB (bits .and .i64 a 255) = true := by rw [placeB_iff, and255]; omega
  obtain ⟨l, f1, f2, f3, f4⟩ := newN_ok (ids := ids) hk
  have hx := nnL_len ids 14
  (repeat' (first | ((with_reducible refine body_intro ?_); (first | ((with_reducible refine seq_intro ?_ (fun Kv hN hX hR => ?_)); (next => exact rfl)) | ((with_reducible refine join_intro ?_ (fun Kv hN hX hR => ?_) ?_); (next => exact rfl)) | (conv => whnf))) | with_reducible refine body_stop (fun Kv hN hX hR => ?_) | with_reducible refine Stop.mk ?_ | with_reducible refine DrawJ.each ?_ | with_reducible exact SubJ.self _ | with_reducible refine SubJ.of ?_ | with_reducible refine fill2_step (fun Kf hF => ?_) | with_reducible refine fill2_nil ?_ | with_reducible refine node2_step (fun Kg hG => ?_) | (with_reducible refine hF _ _ ?_; clear hF; clear Kf) | (with_reducible refine hG _ _ _ _ ?_; clear hG; clear Kg) | ((with_reducible refine seq_intro ?_ (fun Kv hN hX hR => ?_)); (next => exact rfl)) | ((with_reducible refine join_intro ?_ (fun Kv hN hX hR => ?_) ?_); (next => exact rfl)) | (with_reducible refine hN _ ?_; (try (clear hG; clear Kg)); clear hN hX hR; clear Kv) | (with_reducible refine hX _ _ ?_; (try (clear hG; clear Kg)); clear hN hX hR; clear Kv) | (with_reducible refine hR _ ?_; (try (clear hG; clear Kg)); clear hN hX hR; clear Kv) | ((conv => whnf); first | with_reducible rfl | with_reducible exact True.intro | with_reducible refine (fun (_ : (_ : Prop)) => ?_) | with_reducible refine And.intro ?_ ?_ | (with_reducible refine hN _ ?_; (try (clear hG; clear Kg)); clear hN hX hR; clear Kv) | (with_reducible refine hX _ _ ?_; (try (clear hG; clear Kg)); clear hN hX hR; clear Kv) | (with_reducible refine hR _ ?_; (try (clear hG; clear Kg)); clear hN hX hR; clear Kv) | with_reducible refine body_stop (fun Kv hN hX hR => ?_) | with_reducible refine Stop.mk ?_ | with_reducible refine DrawJ.each ?_ | with_reducible exact SubJ.self _ | with_reducible refine SubJ.of ?_ | with_reducible refine fill2_step (fun Kf hF => ?_) | with_reducible refine fill2_nil ?_ | with_reducible refine node2_step (fun Kg hG => ?_) | (with_reducible refine hF _ _ ?_; clear hF; clear Kf) | (with_reducible refine hG _ _ _ _ ?_; clear hG; clear Kg)))); all_goals (conv => whnf); all_goals (repeat ((try (clear hG; clear Kg)); clear hN hX hR; clear Kv))
  all_goals first
    | exact absurd (show (!true) = true by with_reducible assumption) (by decide)
    | (refine ⟨0, ⟨by omega, by omega⟩, ?_⟩
       (repeat' (first | ((with_reducible refine body_intro ?_); (first | ((with_reducible refine seq_intro ?_ (fun Kv hN hX hR => ?_)); (next => exact rfl)) | ((with_reducible refine join_intro ?_ (fun Kv hN hX hR => ?_) ?_); (next => exact rfl)) | (conv => whnf))) | with_reducible refine body_stop (fun Kv hN hX hR => ?_) | with_reducible refine Stop.mk ?_ | with_reducible refine DrawJ.each ?_ | with_reducible exact SubJ.self _ | with_reducible refine SubJ.of ?_ | with_reducible refine fill2_step (fun Kf hF => ?_) | with_reducible refine fill2_nil ?_ | with_reducible refine node2_step (fun Kg hG => ?_) | (with_reducible refine hF _ _ ?_; clear hF; clear Kf) | (with_reducible refine hG _ _ _ _ ?_; clear hG; clear Kg) | ((with_reducible refine seq_intro ?_ (fun Kv hN hX hR => ?_)); (next => exact rfl)) | ((with_reducible refine join_intro ?_ (fun Kv hN hX hR => ?_) ?_); (next => exact rfl)) | (with_reducible refine hN _ ?_; (try (clear hG; clear Kg)); clear hN hX hR; clear Kv) | (with_reducible refine hX _ _ ?_; (try (clear hG; clear Kg)); clear hN hX hR; clear Kv) | (with_reducible refine hR _ ?_; (try (clear hG; clear Kg)); clear hN hX hR; clear Kv) | ((conv => whnf); first | with_reducible rfl | with_reducible exact True.intro | with_reducible intro _ | with_reducible refine And.intro ?_ ?_ | (with_reducible refine hN _ ?_; (try (clear hG; clear Kg)); clear hN hX hR; clear Kv) | (with_reducible refine hX _ _ ?_; (try (clear hG; clear Kg)); clear hN hX hR; clear Kv) | (with_reducible refine hR _ ?_; (try (clear hG; clear Kg)); clear hN hX hR; clear Kv) | with_reducible refine body_stop (fun Kv hN hX hR => ?_) | with_reducible refine Stop.mk ?_ | with_reducible refine DrawJ.each ?_ | with_reducible exact SubJ.self _ | with_reducible refine SubJ.of ?_ | with_reducible refine fill2_step (fun Kf hF => ?_) | with_reducible refine fill2_nil ?_ | with_reducible refine node2_step (fun Kg hG => ?_) | (with_reducible refine hF _ _ ?_; clear hF; clear Kf) | (with_reducible refine hG _ _ _ _ ?_; clear hG; clear Kg)))); all_goals (conv => whnf); all_goals (repeat ((try (clear hG; clear Kg)); clear hN hX hR; clear Kv))
       all_goals rfl)
    | (with_reducible intro i hi
       have hi1 : i ≤ 14 := hi.1
       have hi2 : i ≤ ids.length := hi.2
       rcases i with _ | i
       all_goals
         (repeat' (first | ((with_reducible refine body_intro ?_); (first | ((with_reducible refine seq_intro ?_ (fun Kv hN hX hR => ?_)); (next => exact rfl)) | ((with_reducible refine join_intro ?_ (fun Kv hN hX hR => ?_) ?_); (next => exact rfl)) | (conv => whnf))) | with_reducible refine body_stop (fun Kv hN hX hR => ?_) | with_reducible refine Stop.mk ?_ | with_reducible refine DrawJ.each ?_ | with_reducible exact SubJ.self _ | with_reducible refine SubJ.of ?_ | with_reducible refine fill2_step (fun Kf hF => ?_) | with_reducible refine fill2_nil ?_ | with_reducible refine node2_step (fun Kg hG => ?_) | (with_reducible refine hF _ _ ?_; clear hF; clear Kf) | (with_reducible refine hG _ _ _ _ ?_; clear hG; clear Kg) | ((with_reducible refine seq_intro ?_ (fun Kv hN hX hR => ?_)); (next => exact rfl)) | ((with_reducible refine join_intro ?_ (fun Kv hN hX hR => ?_) ?_); (next => exact rfl)) | (with_reducible refine hN _ ?_; (try (clear hG; clear Kg)); clear hN hX hR; clear Kv) | (with_reducible refine hX _ _ ?_; (try (clear hG; clear Kg)); clear hN hX hR; clear Kv) | (with_reducible refine hR _ ?_; (try (clear hG; clear Kg)); clear hN hX hR; clear Kv) | ((conv => whnf); first | with_reducible rfl | with_reducible exact True.intro | with_reducible refine (fun (_ : (_ : Prop)) => ?_) | with_reducible refine And.intro ?_ ?_ | (with_reducible refine hN _ ?_; (try (clear hG; clear Kg)); clear hN hX hR; clear Kv) | (with_reducible refine hX _ _ ?_; (try (clear hG; clear Kg)); clear hN hX hR; clear Kv) | (with_reducible refine hR _ ?_; (try (clear hG; clear Kg)); clear hN hX hR; clear Kv) | with_reducible refine body_stop (fun Kv hN hX hR => ?_) | with_reducible refine Stop.mk ?_ | with_reducible refine DrawJ.each ?_ | with_reducible exact SubJ.self _ | with_reducible refine SubJ.of ?_ | with_reducible refine fill2_step (fun Kf hF => ?_) | with_reducible refine fill2_nil ?_ | with_reducible refine node2_step (fun Kg hG => ?_) | (with_reducible refine hF _ _ ?_; clear hF; clear Kf) | (with_reducible refine hG _ _ _ _ ?_; clear hG; clear Kg)))); all_goals (conv => whnf); all_goals (repeat ((try (clear hG; clear Kg)); clear hN hX hR; clear Kv))
       all_goals (try dsimp only at *)
       all_goals (try simp only [Int.toNat_natCast, Int.toNat_zero] at *)
       all_goals first
         | exact Ob.mk ⟨by omega, of_decide_eq_true (by with_reducible assumption)⟩
         | exact absurd (show decide ((0 : Int) < 14) = false by with_reducible assumption) (by decide)
         | (refine Ob.mk ?_
            simp only [Rw.len, Rw.bts, Rw.kd, kdBytes, List.length_cons, List.length_nil, List.length_append, nnL_len]
            omega)
         | (have e14 : nnL ids 0 = nnL ids 14 := nnL_all (.inl (of_decide_eq_false (show decide ((0 : Int) < (ids.length : Nat)) = false by with_reducible assumption))) (by omega) (by omega)
            refine ⟨(), trivial, ?_⟩
            (repeat' (first | ((with_reducible refine body_intro ?_); (first | ((with_reducible refine seq_intro ?_ (fun Kv hN hX hR => ?_)); (next => exact rfl)) | ((with_reducible refine join_intro ?_ (fun Kv hN hX hR => ?_) ?_); (next => exact rfl)) | (conv => whnf))) | with_reducible refine body_stop (fun Kv hN hX hR => ?_) | with_reducible refine Stop.mk ?_ | with_reducible refine DrawJ.each ?_ | with_reducible exact SubJ.self _ | with_reducible refine SubJ.of ?_ | with_reducible refine fill2_step (fun Kf hF => ?_) | with_reducible refine fill2_nil ?_ | with_reducible refine node2_step (fun Kg hG => ?_) | (with_reducible refine hF _ _ ?_; clear hF; clear Kf) | (with_reducible refine hG _ _ _ _ ?_; clear hG; clear Kg) | ((with_reducible refine seq_intro ?_ (fun Kv hN hX hR => ?_)); (next => exact rfl)) | ((with_reducible refine join_intro ?_ (fun Kv hN hX hR => ?_) ?_); (next => exact rfl)) | (with_reducible refine hN _ ?_; (try (clear hG; clear Kg)); clear hN hX hR; clear Kv) | (with_reducible refine hX _ _ ?_; (try (clear hG; clear Kg)); clear hN hX hR; clear Kv) | (with_reducible refine hR _ ?_; (try (clear hG; clear Kg)); clear hN hX hR; clear Kv) | ((conv => whnf); first | with_reducible rfl | with_reducible exact True.intro | with_reducible intro _ | with_reducible refine And.intro ?_ ?_ | (with_reducible refine hN _ ?_; (try (clear hG; clear Kg)); clear hN hX hR; clear Kv) | (with_reducible refine hX _ _ ?_; (try (clear hG; clear Kg)); clear hN hX hR; clear Kv) | (with_reducible refine hR _ ?_; (try (clear hG; clear Kg)); clear hN hX hR; clear Kv) | with_reducible refine body_stop (fun Kv hN hX hR => ?_) | with_reducible refine Stop.mk ?_ | with_reducible refine DrawJ.each ?_ | with_reducible exact SubJ.self _ | with_reducible refine SubJ.of ?_ | with_reducible refine fill2_step (fun Kf hF => ?_) | with_reducible refine fill2_nil ?_ | with_reducible refine node2_step (fun Kg hG => ?_) | (with_reducible refine hF _ _ ?_; clear hF; clear Kf) | (with_reducible refine hG _ _ _ _ ?_; clear hG; clear Kg)))); all_goals (conv => whnf); all_goals (repeat ((try (clear hG; clear Kg)); clear hN hX hR; clear Kv))
            all_goals first
              | rfl
              | exact congrArg Rw.ints e14)
         | (have e14 : nnL ids (i + 1) = nnL ids 14 := by
              first
                | exact nnL_all (.inl (of_decide_eq_false (show decide (((i + 1 : Nat) : Int) < (ids.length : Nat)) = false by with_reducible assumption))) hi1 hi2
                | exact nnL_all (.inr (of_decide_eq_false (show decide (((i + 1 : Nat) : Int) < 14) = false by with_reducible assumption))) hi1 hi2
            refine ⟨(), trivial, ?_⟩
            (repeat' (first | ((with_reducible refine body_intro ?_); (first | ((with_reducible refine seq_intro ?_ (fun Kv hN hX hR => ?_)); (next => exact rfl)) | ((with_reducible refine join_intro ?_ (fun Kv hN hX hR => ?_) ?_); (next => exact rfl)) | (conv => whnf))) | with_reducible refine body_stop (fun Kv hN hX hR => ?_) | with_reducible refine Stop.mk ?_ | with_reducible refine DrawJ.each ?_ | with_reducible exact SubJ.self _ | with_reducible refine SubJ.of ?_ | with_reducible refine fill2_step (fun Kf hF => ?_) | with_reducible refine fill2_nil ?_ | with_reducible refine node2_step (fun Kg hG => ?_) | (with_reducible refine hF _ _ ?_; clear hF; clear Kf) | (with_reducible refine hG _ _ _ _ ?_; clear hG; clear Kg) | ((with_reducible refine seq_intro ?_ (fun Kv hN hX hR => ?_)); (next => exact rfl)) | ((with_reducible refine join_intro ?_ (fun Kv hN hX hR => ?_) ?_); (next => exact rfl)) | (with_reducible refine hN _ ?_; (try (clear hG; clear Kg)); clear hN hX hR; clear Kv) | (with_reducible refine hX _ _ ?_; (try (clear hG; clear Kg)); clear hN hX hR; clear Kv) | (with_reducible refine hR _ ?_; (try (clear hG; clear Kg)); clear hN hX hR; clear Kv) | ((conv => whnf); first | with_reducible rfl | with_reducible exact True.intro | with_reducible intro _ | with_reducible refine And.intro ?_ ?_ | (with_reducible refine hN _ ?_; (try (clear hG; clear Kg)); clear hN hX hR; clear Kv) | (with_reducible refine hX _ _ ?_; (try (clear hG; clear Kg)); clear hN hX hR; clear Kv) | (with_reducible refine hR _ ?_; (try (clear hG; clear Kg)); clear hN hX hR; clear Kv) | with_reducible refine body_stop (fun Kv hN hX hR => ?_) | with_reducible refine Stop.mk ?_ | with_reducible refine DrawJ.each ?_ | with_reducible exact SubJ.self _ | with_reducible refine SubJ.of ?_ | with_reducible refine fill2_step (fun Kf hF => ?_) | with_reducible refine fill2_nil ?_ | with_reducible refine node2_step (fun Kg hG => ?_) | (with_reducible refine hF _ _ ?_; clear hF; clear Kf) | (with_reducible refine hG _ _ _ _ ?_; clear hG; clear Kg)))); all_goals (conv => whnf); all_goals (repeat ((try (clear hG; clear Kg)); clear hN hX hR; clear Kv))
            all_goals first
              | rfl
              | exact congrArg Rw.ints e14)
         | (have h1 := of_decide_eq_true (show decide ((0 : Int) < (ids.length : Nat)) = true by with_reducible assumption)
            have e1 := nnL_succ (ids := ids) (i := 0) (by omega)
            refine ⟨1, ⟨by omega, by omega⟩, by show 14 - 1 < 14 - 0; omega, ?_⟩
            (repeat' (first | ((with_reducible refine body_intro ?_); (first | ((with_reducible refine seq_intro ?_ (fun Kv hN hX hR => ?_)); (next => exact rfl)) | ((with_reducible refine join_intro ?_ (fun Kv hN hX hR => ?_) ?_); (next => exact rfl)) | (conv => whnf))) | with_reducible refine body_stop (fun Kv hN hX hR => ?_) | with_reducible refine Stop.mk ?_ | with_reducible refine DrawJ.each ?_ | with_reducible exact SubJ.self _ | with_reducible refine SubJ.of ?_ | with_reducible refine fill2_step (fun Kf hF => ?_) | with_reducible refine fill2_nil ?_ | with_reducible refine node2_step (fun Kg hG => ?_) | (with_reducible refine hF _ _ ?_; clear hF; clear Kf) | (with_reducible refine hG _ _ _ _ ?_; clear hG; clear Kg) | ((with_reducible refine seq_intro ?_ (fun Kv hN hX hR => ?_)); (next => exact rfl)) | ((with_reducible refine join_intro ?_ (fun Kv hN hX hR => ?_) ?_); (next => exact rfl)) | (with_reducible refine hN _ ?_; (try (clear hG; clear Kg)); clear hN hX hR; clear Kv) | (with_reducible refine hX _ _ ?_; (try (clear hG; clear Kg)); clear hN hX hR; clear Kv) | (with_reducible refine hR _ ?_; (try (clear hG; clear Kg)); clear hN hX hR; clear Kv) | ((conv => whnf); first | with_reducible rfl | with_reducible exact True.intro | with_reducible intro _ | with_reducible refine And.intro ?_ ?_ | (with_reducible refine hN _ ?_; (try (clear hG; clear Kg)); clear hN hX hR; clear Kv) | (with_reducible refine hX _ _ ?_; (try (clear hG; clear Kg)); clear hN hX hR; clear Kv) | (with_reducible refine hR _ ?_; (try (clear hG; clear Kg)); clear hN hX hR; clear Kv) | with_reducible refine body_stop (fun Kv hN hX hR => ?_) | with_reducible refine Stop.mk ?_ | with_reducible refine DrawJ.each ?_ | with_reducible exact SubJ.self _ | with_reducible refine SubJ.of ?_ | with_reducible refine fill2_step (fun Kf hF => ?_) | with_reducible refine fill2_nil ?_ | with_reducible refine node2_step (fun Kg hG => ?_) | (with_reducible refine hF _ _ ?_; clear hF; clear Kf) | (with_reducible refine hG _ _ _ _ ?_; clear hG; clear Kg)))); all_goals (conv => whnf); all_goals (repeat ((try (clear hG; clear Kg)); clear hN hX hR; clear Kv))
            all_goals first
              | exact wrapI (by omega) (by omega)
              | exact congrArg Rw.ints e1.symm
              | rfl)
         | (have h1 := of_decide_eq_true (show decide (((i + 1 : Nat) : Int) < (ids.length : Nat)) = true by with_reducible assumption)
            have h2 := of_decide_eq_true (show decide (((i + 1 : Nat) : Int) < 14) = true by with_reducible assumption)
            have e1 := nnL_succ (ids := ids) (i := i + 1) (by omega)
            refine ⟨i + 1 + 1, ⟨by omega, by omega⟩, by show 14 - (i + 1 + 1) < 14 - (i + 1); omega, ?_⟩
            (repeat' (first | ((with_reducible refine body_intro ?_); (first | ((with_reducible refine seq_intro ?_ (fun Kv hN hX hR => ?_)); (next => exact rfl)) | ((with_reducible refine join_intro ?_ (fun Kv hN hX hR => ?_) ?_); (next => exact rfl)) | (conv => whnf))) | with_reducible refine body_stop (fun Kv hN hX hR => ?_) | with_reducible refine Stop.mk ?_ | with_reducible refine DrawJ.each ?_ | with_reducible exact SubJ.self _ | with_reducible refine SubJ.of ?_ | with_reducible refine fill2_step (fun Kf hF => ?_) | with_reducible refine fill2_nil ?_ | with_reducible refine node2_step (fun Kg hG => ?_) | (with_reducible refine hF _ _ ?_; clear hF; clear Kf) | (with_reducible refine hG _ _ _ _ ?_; clear hG; clear Kg) | ((with_reducible refine seq_intro ?_ (fun Kv hN hX hR => ?_)); (next => exact rfl)) | ((with_reducible refine join_intro ?_ (fun Kv hN hX hR => ?_) ?_); (next => exact rfl)) | (with_reducible refine hN _ ?_; (try (clear hG; clear Kg)); clear hN hX hR; clear Kv) | (with_reducible refine hX _ _ ?_; (try (clear hG; clear Kg)); clear hN hX hR; clear Kv) | (with_reducible refine hR _ ?_; (try (clear hG; clear Kg)); clear hN hX hR; clear Kv) | ((conv => whnf); first | with_reducible rfl | with_reducible exact True.intro | with_reducible intro _ | with_reducible refine And.intro ?_ ?_ | (with_reducible refine hN _ ?_; (try (clear hG; clear Kg)); clear hN hX hR; clear Kv) | (with_reducible refine hX _ _ ?_; (try (clear hG; clear Kg)); clear hN hX hR; clear Kv) | (with_reducible refine hR _ ?_; (try (clear hG; clear Kg)); clear hN hX hR; clear Kv) | with_reducible refine body_stop (fun Kv hN hX hR => ?_) | with_reducible refine Stop.mk ?_ | with_reducible refine DrawJ.each ?_ | with_reducible exact SubJ.self _ | with_reducible refine SubJ.of ?_ | with_reducible refine fill2_step (fun Kf hF => ?_) | with_reducible refine fill2_nil ?_ | with_reducible refine node2_step (fun Kg hG => ?_) | (with_reducible refine hF _ _ ?_; clear hF; clear Kf) | (with_reducible refine hG _ _ _ _ ?_; clear hG; clear Kg)))); all_goals (conv => whnf); all_goals (repeat ((try (clear hG; clear Kg)); clear hN hX hR; clear Kv))
            all_goals first
              | exact wrapI (by omega) (by omega)
              | exact congrArg Rw.ints e1.symm
              | rfl)
         | trace_state)
    | (with_reducible intro _ _
       (repeat' (first | ((with_reducible refine body_intro ?_); (first | ((with_reducible refine seq_intro ?_ (fun Kv hN hX hR => ?_)); (next => exact rfl)) | ((with_reducible refine join_intro ?_ (fun Kv hN hX hR => ?_) ?_); (next => exact rfl)) | (conv => whnf))) | with_reducible refine body_stop (fun Kv hN hX hR => ?_) | with_reducible refine Stop.mk ?_ | with_reducible refine DrawJ.each ?_ | with_reducible exact SubJ.self _ | with_reducible refine SubJ.of ?_ | with_reducible refine fill2_step (fun Kf hF => ?_) | with_reducible refine fill2_nil ?_ | with_reducible refine node2_step (fun Kg hG => ?_) | (with_reducible refine hF _ _ ?_; clear hF; clear Kf) | (with_reducible refine hG _ _ _ _ ?_; clear hG; clear Kg) | ((with_reducible refine seq_intro ?_ (fun Kv hN hX hR => ?_)); (next => exact rfl)) | ((with_reducible refine join_intro ?_ (fun Kv hN hX hR => ?_) ?_); (next => exact rfl)) | (with_reducible refine hN _ ?_; (try (clear hG; clear Kg)); clear hN hX hR; clear Kv) | (with_reducible refine hX _ _ ?_; (try (clear hG; clear Kg)); clear hN hX hR; clear Kv) | (with_reducible refine hR _ ?_; (try (clear hG; clear Kg)); clear hN hX hR; clear Kv) | ((conv => whnf); first | with_reducible rfl | with_reducible exact True.intro | with_reducible refine (fun (_ : (_ : Prop)) => ?_) | with_reducible refine And.intro ?_ ?_ | (with_reducible refine hN _ ?_; (try (clear hG; clear Kg)); clear hN hX hR; clear Kv) | (with_reducible refine hX _ _ ?_; (try (clear hG; clear Kg)); clear hN hX hR; clear Kv) | (with_reducible refine hR _ ?_; (try (clear hG; clear Kg)); clear hN hX hR; clear Kv) | with_reducible refine body_stop (fun Kv hN hX hR => ?_) | with_reducible refine Stop.mk ?_ | with_reducible refine DrawJ.each ?_ | with_reducible exact SubJ.self _ | with_reducible refine SubJ.of ?_ | with_reducible refine fill2_step (fun Kf hF => ?_) | with_reducible refine fill2_nil ?_ | with_reducible refine node2_step (fun Kg hG => ?_) | (with_reducible refine hF _ _ ?_; clear hF; clear Kf) | (with_reducible refine hG _ _ _ _ ?_; clear hG; clear Kg)))); all_goals (conv => whnf); all_goals (repeat ((try (clear hG; clear Kg)); clear hN hX hR; clear Kv))
       all_goals (try simp only [f1, etaNode, f2, Int.toNat_natCast] at *)
       all_goals first
         | exact absurd (show (!true) = true by with_reducible assumption) (by decide)
         | exact absurd (show (!decide True) = true by with_reducible assumption) (by simp)
         | exact absurd (show (!decide (IntKind.i64.wrap (IntKind.i64.wrap ((([] : List GPeer).length : Int) + (([] : List GItem).length : Int)) + (([] : List GTold).length : Int)) = 0)) = true by with_reducible assumption) (by decide)
         | (refine ⟨0, by omega, ?_⟩
            (repeat' (first | ((with_reducible refine body_intro ?_); (first | ((with_reducible refine seq_intro ?_ (fun Kv hN hX hR => ?_)); (next => exact rfl)) | ((with_reducible refine join_intro ?_ (fun Kv hN hX hR => ?_) ?_); (next => exact rfl)) | (conv => whnf))) | with_reducible refine body_stop (fun Kv hN hX hR => ?_) | with_reducible refine Stop.mk ?_ | with_reducible refine DrawJ.each ?_ | with_reducible exact SubJ.self _ | with_reducible refine SubJ.of ?_ | with_reducible refine fill2_step (fun Kf hF => ?_) | with_reducible refine fill2_nil ?_ | with_reducible refine node2_step (fun Kg hG => ?_) | (with_reducible refine hF _ _ ?_; clear hF; clear Kf) | (with_reducible refine hG _ _ _ _ ?_; clear hG; clear Kg) | ((with_reducible refine seq_intro ?_ (fun Kv hN hX hR => ?_)); (next => exact rfl)) | ((with_reducible refine join_intro ?_ (fun Kv hN hX hR => ?_) ?_); (next => exact rfl)) | (with_reducible refine hN _ ?_; (try (clear hG; clear Kg)); clear hN hX hR; clear Kv) | (with_reducible refine hX _ _ ?_; (try (clear hG; clear Kg)); clear hN hX hR; clear Kv) | (with_reducible refine hR _ ?_; (try (clear hG; clear Kg)); clear hN hX hR; clear Kv) | ((conv => whnf); first | with_reducible rfl | with_reducible exact True.intro | with_reducible intro _ | with_reducible refine And.intro ?_ ?_ | (with_reducible refine hN _ ?_; (try (clear hG; clear Kg)); clear hN hX hR; clear Kv) | (with_reducible refine hX _ _ ?_; (try (clear hG; clear Kg)); clear hN hX hR; clear Kv) | (with_reducible refine hR _ ?_; (try (clear hG; clear Kg)); clear hN hX hR; clear Kv) | with_reducible refine body_stop (fun Kv hN hX hR => ?_) | with_reducible refine Stop.mk ?_ | with_reducible refine DrawJ.each ?_ | with_reducible exact SubJ.self _ | with_reducible refine SubJ.of ?_ | with_reducible refine fill2_step (fun Kf hF => ?_) | with_reducible refine fill2_nil ?_ | with_reducible refine node2_step (fun Kg hG => ?_) | (with_reducible refine hF _ _ ?_; clear hF; clear Kf) | (with_reducible refine hG _ _ _ _ ?_; clear hG; clear Kg)))); all_goals (conv => whnf); all_goals (repeat ((try (clear hG; clear Kg)); clear hN hX hR; clear Kv))
            all_goals rfl)
         | (with_reducible intro i hi
            have hi : i ≤ (nnL ids 14).length := hi
            (repeat' (first | ((with_reducible refine body_intro ?_); (first | ((with_reducible refine seq_intro ?_ (fun Kv hN hX hR => ?_)); (next => exact rfl)) | ((with_reducible refine join_intro ?_ (fun Kv hN hX hR => ?_) ?_); (next => exact rfl)) | (conv => whnf))) | with_reducible refine body_stop (fun Kv hN hX hR => ?_) | with_reducible refine Stop.mk ?_ | with_reducible refine DrawJ.each ?_ | with_reducible exact SubJ.self _ | with_reducible refine SubJ.of ?_ | with_reducible refine fill2_step (fun Kf hF => ?_) | with_reducible refine fill2_nil ?_ | with_reducible refine node2_step (fun Kg hG => ?_) | (with_reducible refine hF _ _ ?_; clear hF; clear Kf) | (with_reducible refine hG _ _ _ _ ?_; clear hG; clear Kg) | ((with_reducible refine seq_intro ?_ (fun Kv hN hX hR => ?_)); (next => exact rfl)) | ((with_reducible refine join_intro ?_ (fun Kv hN hX hR => ?_) ?_); (next => exact rfl)) | (with_reducible refine hN _ ?_; (try (clear hG; clear Kg)); clear hN hX hR; clear Kv) | (with_reducible refine hX _ _ ?_; (try (clear hG; clear Kg)); clear hN hX hR; clear Kv) | (with_reducible refine hR _ ?_; (try (clear hG; clear Kg)); clear hN hX hR; clear Kv) | ((conv => whnf); first | with_reducible rfl | with_reducible exact True.intro | with_reducible refine (fun (_ : (_ : Prop)) => ?_) | with_reducible refine And.intro ?_ ?_ | (with_reducible refine hN _ ?_; (try (clear hG; clear Kg)); clear hN hX hR; clear Kv) | (with_reducible refine hX _ _ ?_; (try (clear hG; clear Kg)); clear hN hX hR; clear Kv) | (with_reducible refine hR _ ?_; (try (clear hG; clear Kg)); clear hN hX hR; clear Kv) | with_reducible refine body_stop (fun Kv hN hX hR => ?_) | with_reducible refine Stop.mk ?_ | with_reducible refine DrawJ.each ?_ | with_reducible exact SubJ.self _ | with_reducible refine SubJ.of ?_ | with_reducible refine fill2_step (fun Kf hF => ?_) | with_reducible refine fill2_nil ?_ | with_reducible refine node2_step (fun Kg hG => ?_) | (with_reducible refine hF _ _ ?_; clear hF; clear Kf) | (with_reducible refine hG _ _ _ _ ?_; clear hG; clear Kg)))); all_goals (conv => whnf); all_goals (repeat ((try (clear hG; clear Kg)); clear hN hX hR; clear Kv))
            all_goals first
              | (refine ⟨0, Nat.zero_le _, ?_⟩
                 (repeat' (first | ((with_reducible refine body_intro ?_); (first | ((with_reducible refine seq_intro ?_ (fun Kv hN hX hR => ?_)); (next => exact rfl)) | ((with_reducible refine join_intro ?_ (fun Kv hN hX hR => ?_) ?_); (next => exact rfl)) | (conv => whnf))) | with_reducible refine body_stop (fun Kv hN hX hR => ?_) | with_reducible refine Stop.mk ?_ | with_reducible refine DrawJ.each ?_ | with_reducible exact SubJ.self _ | with_reducible refine SubJ.of ?_ | with_reducible refine fill2_step (fun Kf hF => ?_) | with_reducible refine fill2_nil ?_ | with_reducible refine node2_step (fun Kg hG => ?_) | (with_reducible refine hF _ _ ?_; clear hF; clear Kf) | (with_reducible refine hG _ _ _ _ ?_; clear hG; clear Kg) | ((with_reducible refine seq_intro ?_ (fun Kv hN hX hR => ?_)); (next => exact rfl)) | ((with_reducible refine join_intro ?_ (fun Kv hN hX hR => ?_) ?_); (next => exact rfl)) | (with_reducible refine hN _ ?_; (try (clear hG; clear Kg)); clear hN hX hR; clear Kv) | (with_reducible refine hX _ _ ?_; (try (clear hG; clear Kg)); clear hN hX hR; clear Kv) | (with_reducible refine hR _ ?_; (try (clear hG; clear Kg)); clear hN hX hR; clear Kv) | ((conv => whnf); first | with_reducible rfl | with_reducible exact True.intro | with_reducible intro _ | with_reducible refine And.intro ?_ ?_ | (with_reducible refine hN _ ?_; (try (clear hG; clear Kg)); clear hN hX hR; clear Kv) | (with_reducible refine hX _ _ ?_; (try (clear hG; clear Kg)); clear hN hX hR; clear Kv) | (with_reducible refine hR _ ?_; (try (clear hG; clear Kg)); clear hN hX hR; clear Kv) | with_reducible refine body_stop (fun Kv hN hX hR => ?_) | with_reducible refine Stop.mk ?_ | with_reducible refine DrawJ.each ?_ | with_reducible exact SubJ.self _ | with_reducible refine SubJ.of ?_ | with_reducible refine fill2_step (fun Kf hF => ?_) | with_reducible refine fill2_nil ?_ | with_reducible refine node2_step (fun Kg hG => ?_) | (with_reducible refine hF _ _ ?_; clear hF; clear Kf) | (with_reducible refine hG _ _ _ _ ?_; clear hG; clear Kg)))); all_goals (conv => whnf); all_goals (repeat ((try (clear hG; clear Kg)); clear hN hX hR; clear Kv))
                 all_goals rfl)
              | (with_reducible intro j hj
                 have hj : j ≤ l.length := hj
                 (repeat' (first | ((with_reducible refine body_intro ?_); (first | ((with_reducible refine seq_intro ?_ (fun Kv hN hX hR => ?_)); (next => exact rfl)) | ((with_reducible refine join_intro ?_ (fun Kv hN hX hR => ?_) ?_); (next => exact rfl)) | (conv => whnf))) | with_reducible refine body_stop (fun Kv hN hX hR => ?_) | with_reducible refine Stop.mk ?_ | with_reducible refine DrawJ.each ?_ | with_reducible exact SubJ.self _ | with_reducible refine SubJ.of ?_ | with_reducible refine fill2_step (fun Kf hF => ?_) | with_reducible refine fill2_nil ?_ | with_reducible refine node2_step (fun Kg hG => ?_) | (with_reducible refine hF _ _ ?_; clear hF; clear Kf) | (with_reducible refine hG _ _ _ _ ?_; clear hG; clear Kg) | ((with_reducible refine seq_intro ?_ (fun Kv hN hX hR => ?_)); (next => exact rfl)) | ((with_reducible refine join_intro ?_ (fun Kv hN hX hR => ?_) ?_); (next => exact rfl)) | (with_reducible refine hN _ ?_; (try (clear hG; clear Kg)); clear hN hX hR; clear Kv) | (with_reducible refine hX _ _ ?_; (try (clear hG; clear Kg)); clear hN hX hR; clear Kv) | (with_reducible refine hR _ ?_; (try (clear hG; clear Kg)); clear hN hX hR; clear Kv) | ((conv => whnf); first | with_reducible rfl | with_reducible exact True.intro | with_reducible refine (fun (_ : (_ : Prop)) => ?_) | with_reducible refine And.intro ?_ ?_ | (with_reducible refine hN _ ?_; (try (clear hG; clear Kg)); clear hN hX hR; clear Kv) | (with_reducible refine hX _ _ ?_; (try (clear hG; clear Kg)); clear hN hX hR; clear Kv) | (with_reducible refine hR _ ?_; (try (clear hG; clear Kg)); clear hN hX hR; clear Kv) | with_reducible refine body_stop (fun Kv hN hX hR => ?_) | with_reducible refine Stop.mk ?_ | with_reducible refine DrawJ.each ?_ | with_reducible exact SubJ.self _ | with_reducible refine SubJ.of ?_ | with_reducible refine fill2_step (fun Kf hF => ?_) | with_reducible refine fill2_nil ?_ | with_reducible refine node2_step (fun Kg hG => ?_) | (with_reducible refine hF _ _ ?_; clear hF; clear Kf) | (with_reducible refine hG _ _ _ _ ?_; clear hG; clear Kg)))); all_goals (conv => whnf); all_goals (repeat ((try (clear hG; clear Kg)); clear hN hX hR; clear Kv))
                 all_goals (try simp only [Int.toNat_natCast] at *)
                 all_goals first
                   | (refine Ob.mk ⟨by omega, ?_⟩
                      exact of_decide_eq_true (by with_reducible assumption))
                   | (have h1 := of_decide_eq_true (show decide ((j : Int) < (l.length : Nat)) = true by with_reducible assumption)
                      have e1 := hasI_succ (x := (nnL ids 14).getD i 0) (show j < l.length by omega)
                      refine ⟨j + 1, by omega, by omega, ?_⟩
                      (repeat' (first | ((with_reducible refine body_intro ?_); (first | ((with_reducible refine seq_intro ?_ (fun Kv hN hX hR => ?_)); (next => exact rfl)) | ((with_reducible refine join_intro ?_ (fun Kv hN hX hR => ?_) ?_); (next => exact rfl)) | (conv => whnf))) | with_reducible refine body_stop (fun Kv hN hX hR => ?_) | with_reducible refine Stop.mk ?_ | with_reducible refine DrawJ.each ?_ | with_reducible exact SubJ.self _ | with_reducible refine SubJ.of ?_ | with_reducible refine fill2_step (fun Kf hF => ?_) | with_reducible refine fill2_nil ?_ | with_reducible refine node2_step (fun Kg hG => ?_) | (with_reducible refine hF _ _ ?_; clear hF; clear Kf) | (with_reducible refine hG _ _ _ _ ?_; clear hG; clear Kg) | ((with_reducible refine seq_intro ?_ (fun Kv hN hX hR => ?_)); (next => exact rfl)) | ((with_reducible refine join_intro ?_ (fun Kv hN hX hR => ?_) ?_); (next => exact rfl)) | (with_reducible refine hN _ ?_; (try (clear hG; clear Kg)); clear hN hX hR; clear Kv) | (with_reducible refine hX _ _ ?_; (try (clear hG; clear Kg)); clear hN hX hR; clear Kv) | (with_reducible refine hR _ ?_; (try (clear hG; clear Kg)); clear hN hX hR; clear Kv) | ((conv => whnf); first | with_reducible rfl | with_reducible exact True.intro | with_reducible intro _ | with_reducible refine And.intro ?_ ?_ | (with_reducible refine hN _ ?_; (try (clear hG; clear Kg)); clear hN hX hR; clear Kv) | (with_reducible refine hX _ _ ?_; (try (clear hG; clear Kg)); clear hN hX hR; clear Kv) | (with_reducible refine hR _ ?_; (try (clear hG; clear Kg)); clear hN hX hR; clear Kv) | with_reducible refine body_stop (fun Kv hN hX hR => ?_) | with_reducible refine Stop.mk ?_ | with_reducible refine DrawJ.each ?_ | with_reducible exact SubJ.self _ | with_reducible refine SubJ.of ?_ | with_reducible refine fill2_step (fun Kf hF => ?_) | with_reducible refine fill2_nil ?_ | with_reducible refine node2_step (fun Kg hG => ?_) | (with_reducible refine hF _ _ ?_; clear hF; clear Kf) | (with_reducible refine hG _ _ _ _ ?_; clear hG; clear Kg)))); all_goals (conv => whnf); all_goals (repeat ((try (clear hG; clear Kg)); clear hN hX hR; clear Kv))
                      all_goals first
                        | exact wrapI (by omega) (by omega)
                        | (simp only [Int.toNat_natCast]
                           rw [e1]
                           simp_all
                           done)
                        | rfl)
                   | (have h1 := of_decide_eq_false (show decide ((j : Int) < (l.length : Nat)) = false by with_reducible assumption)
                      have h2 := of_decide_eq_true (show decide ((i : Int) < ((nnL ids 14).length : Nat)) = true by with_reducible assumption)
                      have e1 := new_has f4 (i := i) (by omega)
                      have e2 : l.take j = l := List.take_of_length_le (by omega)
                      first
                        | (exfalso
                           simp only [e1, e2] at *
                           simp_all
                           done)
                        | (refine ⟨i + 1, by omega, by omega, ?_⟩
                           (repeat' (first | ((with_reducible refine body_intro ?_); (first | ((with_reducible refine seq_intro ?_ (fun Kv hN hX hR => ?_)); (next => exact rfl)) | ((with_reducible refine join_intro ?_ (fun Kv hN hX hR => ?_) ?_); (next => exact rfl)) | (conv => whnf))) | with_reducible refine body_stop (fun Kv hN hX hR => ?_) | with_reducible refine Stop.mk ?_ | with_reducible refine DrawJ.each ?_ | with_reducible exact SubJ.self _ | with_reducible refine SubJ.of ?_ | with_reducible refine fill2_step (fun Kf hF => ?_) | with_reducible refine fill2_nil ?_ | with_reducible refine node2_step (fun Kg hG => ?_) | (with_reducible refine hF _ _ ?_; clear hF; clear Kf) | (with_reducible refine hG _ _ _ _ ?_; clear hG; clear Kg) | ((with_reducible refine seq_intro ?_ (fun Kv hN hX hR => ?_)); (next => exact rfl)) | ((with_reducible refine join_intro ?_ (fun Kv hN hX hR => ?_) ?_); (next => exact rfl)) | (with_reducible refine hN _ ?_; (try (clear hG; clear Kg)); clear hN hX hR; clear Kv) | (with_reducible refine hX _ _ ?_; (try (clear hG; clear Kg)); clear hN hX hR; clear Kv) | (with_reducible refine hR _ ?_; (try (clear hG; clear Kg)); clear hN hX hR; clear Kv) | ((conv => whnf); first | with_reducible rfl | with_reducible exact True.intro | with_reducible intro _ | with_reducible refine And.intro ?_ ?_ | (with_reducible refine hN _ ?_; (try (clear hG; clear Kg)); clear hN hX hR; clear Kv) | (with_reducible refine hX _ _ ?_; (try (clear hG; clear Kg)); clear hN hX hR; clear Kv) | (with_reducible refine hR _ ?_; (try (clear hG; clear Kg)); clear hN hX hR; clear Kv) | with_reducible refine body_stop (fun Kv hN hX hR => ?_) | with_reducible refine Stop.mk ?_ | with_reducible refine DrawJ.each ?_ | with_reducible exact SubJ.self _ | with_reducible refine SubJ.of ?_ | with_reducible refine fill2_step (fun Kf hF => ?_) | with_reducible refine fill2_nil ?_ | with_reducible refine node2_step (fun Kg hG => ?_) | (with_reducible refine hF _ _ ?_; clear hF; clear Kf) | (with_reducible refine hG _ _ _ _ ?_; clear hG; clear Kg)))); all_goals (conv => whnf); all_goals (repeat ((try (clear hG; clear Kg)); clear hN hX hR; clear Kv))
                           all_goals first
                             | exact wrapI (by omega) (by omega)
                             | rfl)
                        | trace_state)
                   | trace_state)
              | exact absurd (show decide ((l.length : Int) ≤ ((nnL ids 14).length : Nat)) = false by with_reducible assumption) (by rw [decide_eq_true (by omega)]; simp)
              | exact absurd (show decide ((n100.items.length : Int) = 3) = false by with_reducible assumption) (by decide)
              | decide
              | trace_state)
         | trace_state)
    | trace_state
end Go.Proofs.Ytaapoiikbolgnaa
