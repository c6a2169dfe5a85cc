/- A part of the proof of WorldNew: SameCuts, F23e, G23a. -/
import Derived.Test.YtmhieddhmebfhaaMLWorldNew3
/- Contracts: the laws' comparisons: Cuts. -/
namespace Go.Proofs.Ytmhieddhmebfhaa
open Go.RowKit
set_option maxRecDepth 20000

theorem k_SameCuts : Known Try.prog tau 53 (S2 dCuts dCuts fun a b => okB (decide (a = b))) := by
  refine known2 hmix tau_ok ctx_nil (fn := Try.f53) (by kernel_rfl) [(6, [(0, 0), (1, 0), (2, 3), (3, 4), (4, 0), (5, 0), (6, 48), (7, 64), (8, 136)])] (by kernel_rfl) _ _ _ fun xs ys hfit => ⟨rfl,
    [(4, invN [4, 5, 11, 12, 13, 14, 15, 16, 17, 18, 19, 20, 21, 22, 23, 24, 25] (fun i => i ≤ xs.length ∧ ∀ j, j < i → xs.getD j default = ys.getD j default) (fun i => withS [(5, .int .i64 i)]) (fun i => xs.length - i))], ?_⟩
  have hlen : xs.length * 16 ≤ 140737488355328 := hfit.1
  clear hfit
  (repeat' (first | ((with_reducible refine BdI ?_); (first | ((with_reducible refine SqI ?_ (fun Kv hN hX hR => ?_)); (next => exact rfl)) | ((with_reducible refine JnI ?_ ?_); (next => exact rfl)) | (conv => whnf))) | (with_reducible first | refine BdS (fun Kv hN hX hR => ?_) | refine Stop.mk ?_ | refine Join.mk ⟨fun Kv hN hX hR => ?_, ?_⟩ | refine DrawJ.each ?_ | exact SubJ.self _) | with_reducible refine SubJ.of ?_ | (with_reducible first | refine FlS (fun Kf hF => ?_) | refine FlN ?_ | refine NdS (fun Kg hG => ?_) | (refine hF _ _ ?_; clear hF; clear Kf) | (refine hG _ _ _ _ ?_; clear hG; clear Kg)) | ((with_reducible refine SqI ?_ (fun Kv hN hX hR => ?_)); (next => exact rfl)) | ((with_reducible refine JnI ?_ ?_); (next => exact rfl)) | ((with_reducible first | refine hN _ ?_ | refine hX _ _ ?_ | refine hR _ ?_); (try (clear hG; clear Kg)); clear hN hX hR; clear Kv) | ((conv => whnf); first | (with_reducible first | rfl | exact True.intro | refine (fun (_ : (_ : Prop)) => ?_) | refine And.intro ?_ ?_) | ((with_reducible first | refine hN _ ?_ | refine hX _ _ ?_ | refine hR _ ?_); (try (clear hG; clear Kg)); clear hN hX hR; clear Kv) | (with_reducible first | refine BdS (fun Kv hN hX hR => ?_) | refine Stop.mk ?_ | refine Join.mk ⟨fun Kv hN hX hR => ?_, ?_⟩ | refine DrawJ.each ?_ | exact SubJ.self _) | with_reducible refine SubJ.of ?_ | (with_reducible first | refine FlS (fun Kf hF => ?_) | refine FlN ?_ | refine NdS (fun Kg hG => ?_) | (refine hF _ _ ?_; clear hF; clear Kf) | (refine hG _ _ _ _ ?_; clear hG; clear Kg))))); all_goals (conv => whnf); all_goals (repeat ((try (clear hG; clear Kg)); clear hN hX hR; clear Kv))
  all_goals first
    | (have h := of_decide_eq_false (nf (by with_reducible assumption))
       exact (decide_eq_false (fun e => h (by rw [e]))).symm)
    | (refine ⟨0, ⟨by omega, by intros; omega⟩, ?_⟩
       (repeat' (first | ((with_reducible refine BdI ?_); (first | ((with_reducible refine SqI ?_ (fun Kv hN hX hR => ?_)); (next => exact rfl)) | ((with_reducible refine JnI ?_ ?_); (next => exact rfl)) | (conv => whnf))) | (with_reducible first | refine BdS (fun Kv hN hX hR => ?_) | refine Stop.mk ?_ | refine Join.mk ⟨fun Kv hN hX hR => ?_, ?_⟩ | refine DrawJ.each ?_ | exact SubJ.self _) | with_reducible refine SubJ.of ?_ | (with_reducible first | refine FlS (fun Kf hF => ?_) | refine FlN ?_ | refine NdS (fun Kg hG => ?_) | (refine hF _ _ ?_; clear hF; clear Kf) | (refine hG _ _ _ _ ?_; clear hG; clear Kg)) | ((with_reducible refine SqI ?_ (fun Kv hN hX hR => ?_)); (next => exact rfl)) | ((with_reducible refine JnI ?_ ?_); (next => exact rfl)) | ((with_reducible first | refine hN _ ?_ | refine hX _ _ ?_ | refine hR _ ?_); (try (clear hG; clear Kg)); clear hN hX hR; clear Kv) | ((conv => whnf); first | (with_reducible first | rfl | exact True.intro | intro _ | refine And.intro ?_ ?_) | ((with_reducible first | refine hN _ ?_ | refine hX _ _ ?_ | refine hR _ ?_); (try (clear hG; clear Kg)); clear hN hX hR; clear Kv) | (with_reducible first | refine BdS (fun Kv hN hX hR => ?_) | refine Stop.mk ?_ | refine Join.mk ⟨fun Kv hN hX hR => ?_, ?_⟩ | refine DrawJ.each ?_ | exact SubJ.self _) | with_reducible refine SubJ.of ?_ | (with_reducible first | refine FlS (fun Kf hF => ?_) | refine FlN ?_ | refine NdS (fun Kg hG => ?_) | (refine hF _ _ ?_; clear hF; clear Kf) | (refine hG _ _ _ _ ?_; clear hG; clear Kg))))); all_goals (conv => whnf); all_goals (repeat ((try (clear hG; clear Kg)); clear hN hX hR; clear Kv))
       all_goals rfl)
    | (with_reducible intro i hi
       have hl : (xs.length : Int) = ys.length := of_decide_eq_true (nt (by with_reducible assumption))
       (repeat' (first | ((with_reducible refine BdI ?_); (first | ((with_reducible refine SqI ?_ (fun Kv hN hX hR => ?_)); (next => exact rfl)) | ((with_reducible refine JnI ?_ ?_); (next => exact rfl)) | (conv => whnf))) | (with_reducible first | refine BdS (fun Kv hN hX hR => ?_) | refine Stop.mk ?_ | refine Join.mk ⟨fun Kv hN hX hR => ?_, ?_⟩ | refine DrawJ.each ?_ | exact SubJ.self _) | with_reducible refine SubJ.of ?_ | (with_reducible first | refine FlS (fun Kf hF => ?_) | refine FlN ?_ | refine NdS (fun Kg hG => ?_) | (refine hF _ _ ?_; clear hF; clear Kf) | (refine hG _ _ _ _ ?_; clear hG; clear Kg)) | ((with_reducible refine SqI ?_ (fun Kv hN hX hR => ?_)); (next => exact rfl)) | ((with_reducible refine JnI ?_ ?_); (next => exact rfl)) | ((with_reducible first | refine hN _ ?_ | refine hX _ _ ?_ | refine hR _ ?_); (try (clear hG; clear Kg)); clear hN hX hR; clear Kv) | ((conv => whnf); first | (with_reducible first | rfl | exact True.intro | intro _ | refine And.intro ?_ ?_) | ((with_reducible first | refine hN _ ?_ | refine hX _ _ ?_ | refine hR _ ?_); (try (clear hG; clear Kg)); clear hN hX hR; clear Kv) | (with_reducible first | refine BdS (fun Kv hN hX hR => ?_) | refine Stop.mk ?_ | refine Join.mk ⟨fun Kv hN hX hR => ?_, ?_⟩ | refine DrawJ.each ?_ | exact SubJ.self _) | with_reducible refine SubJ.of ?_ | (with_reducible first | refine FlS (fun Kf hF => ?_) | refine FlN ?_ | refine NdS (fun Kg hG => ?_) | (refine hF _ _ ?_; clear hF; clear Kf) | (refine hG _ _ _ _ ?_; clear hG; clear Kg))))); all_goals (conv => whnf); all_goals (repeat ((try (clear hG; clear Kg)); clear hN hX hR; clear Kv))
       all_goals (try simp only [Int.toNat_natCast] at *)
       all_goals first
         | (have h := of_decide_eq_true (show decide ((i : Int) < (xs.length : Nat)) = true by with_reducible assumption)
            exact Ob.mk ⟨by omega, by omega⟩)
         | (have h := of_decide_eq_true (show decide ((i : Int) < (xs.length : Nat)) = true by with_reducible assumption)
            have h3 : ¬ (xs.getD i default = ys.getD i default) := by
              intro e
              simp_all
              done
            exact (decide_eq_false (fun e => h3 (by rw [e]))).symm)
         | (have h := of_decide_eq_true (show decide ((i : Int) < (xs.length : Nat)) = true by with_reducible assumption)
            have h3 : xs.getD i default = ys.getD i default := by
              simp only [Bool.not_eq_false', Bool.and_eq_true, decide_eq_true_eq] at *
              first
                | assumption
                | (rename_i h4; cases hx : xs.getD i default; cases hy : ys.getD i default; simp_all)
            refine ⟨i + 1, ⟨by omega, fun j hj => ?_⟩, by show xs.length - (i + 1) < xs.length - i; omega, ?_⟩
            · rcases Nat.lt_succ_iff_lt_or_eq.1 hj with h4 | h4
              · exact hi.2 j h4
              · subst h4; exact h3
            · (repeat' (first | ((with_reducible refine BdI ?_); (first | ((with_reducible refine SqI ?_ (fun Kv hN hX hR => ?_)); (next => exact rfl)) | ((with_reducible refine JnI ?_ ?_); (next => exact rfl)) | (conv => whnf))) | (with_reducible first | refine BdS (fun Kv hN hX hR => ?_) | refine Stop.mk ?_ | refine Join.mk ⟨fun Kv hN hX hR => ?_, ?_⟩ | refine DrawJ.each ?_ | exact SubJ.self _) | with_reducible refine SubJ.of ?_ | (with_reducible first | refine FlS (fun Kf hF => ?_) | refine FlN ?_ | refine NdS (fun Kg hG => ?_) | (refine hF _ _ ?_; clear hF; clear Kf) | (refine hG _ _ _ _ ?_; clear hG; clear Kg)) | ((with_reducible refine SqI ?_ (fun Kv hN hX hR => ?_)); (next => exact rfl)) | ((with_reducible refine JnI ?_ ?_); (next => exact rfl)) | ((with_reducible first | refine hN _ ?_ | refine hX _ _ ?_ | refine hR _ ?_); (try (clear hG; clear Kg)); clear hN hX hR; clear Kv) | ((conv => whnf); first | (with_reducible first | rfl | exact True.intro | intro _ | refine And.intro ?_ ?_) | ((with_reducible first | refine hN _ ?_ | refine hX _ _ ?_ | refine hR _ ?_); (try (clear hG; clear Kg)); clear hN hX hR; clear Kv) | (with_reducible first | refine BdS (fun Kv hN hX hR => ?_) | refine Stop.mk ?_ | refine Join.mk ⟨fun Kv hN hX hR => ?_, ?_⟩ | refine DrawJ.each ?_ | exact SubJ.self _) | with_reducible refine SubJ.of ?_ | (with_reducible first | refine FlS (fun Kf hF => ?_) | refine FlN ?_ | refine NdS (fun Kg hG => ?_) | (refine hF _ _ ?_; clear hF; clear Kf) | (refine hG _ _ _ _ ?_; clear hG; clear Kg))))); all_goals (conv => whnf); all_goals (repeat ((try (clear hG; clear Kg)); clear hN hX hR; clear Kv))
              all_goals first
                | exact wrapI (by omega) (by omega)
                | rfl)
         | (have h := of_decide_eq_false (show decide ((i : Int) < (xs.length : Nat)) = false by with_reducible assumption)
            exact (decide_eq_true (eq_of_take (d := default) (by omega) fun j hj => hi.2 j (by omega))).symm)
         | trace_state)
    | trace_state
end Go.Proofs.Ytmhieddhmebfhaa

/- Contracts: new worlds; messages sent; comparisons. -/
namespace Go.Proofs.Ytmhieddhmebfhaa
open Go.RowKit
set_option maxRecDepth 20000
def upN (id : Int) : GNode := ⟨true, ⟨id, [], []⟩, [], []⟩
def worldZ : GWorld := ⟨[], [], []⟩
theorem newN_up {id : Int} (h : placeB id = true) : newN id [] = (upN id, 0) := newN_yes h rfl
noncomputable def newW (ids : List Int) : GWorld × Int := Classical.choose (seal_ex (if 1 ≤ ids.length ∧ ids.length ≤ 8 ∧ passB ids = true then ((⟨ids.map upN, [], []⟩ : GWorld), (0 : Int)) else (worldZ, 2300)))
theorem newW_def (ids : List Int) : newW ids = if 1 ≤ ids.length ∧ ids.length ≤ 8 ∧ passB ids = true then ((⟨ids.map upN, [], []⟩ : GWorld), (0 : Int)) else (worldZ, 2300) := Classical.choose_spec (seal_ex _)
theorem newW_no {ids : List Int} (h : ¬ (1 ≤ ids.length ∧ ids.length ≤ 8 ∧ passB ids = true)) : newW ids = (worldZ, 2300) := by rw [newW_def, if_neg h]
theorem newW_yes {ids : List Int} (h1 : 1 ≤ ids.length) (h2 : ids.length ≤ 8) (h3 : passB ids = true) : newW ids = (⟨ids.map upN, [], []⟩, 0) := by rw [newW_def, if_pos ⟨h1, h2, h3⟩]
noncomputable def oNewW (ids : List Int) : Out := .ok (.tup [.agg [.own 0, .row .new (.cuts (newW ids).1.cuts), .row .new (.msgs (newW ids).1.packets)], .int .i64 (newW ids).2]) [.nodes (newW ids).1.nodes]
theorem up_succ {l : List Int} {i : Nat} (h : i < l.length) : (l.take (i + 1)).map upN = (l.take i).map upN ++ [upN (l.getD i 0)] := by
  rw [List.take_succ_eq_append_getElem h, List.map_append]
  simp [List.getD_eq_getElem?_getD, h]
theorem up_one {l : List Int} (h : 0 < l.length) : (l.take 1).map upN = [upN (l.getD 0 0)] := by
  cases l with
  | nil => simp at h
  | cons x l => rfl
set_option maxHeartbeats 4000000 in
theorem k_worldNew : Known Try.prog tau 25 (S1 dInts oNewW) := by
  refine known1 hmix tau_ok (ctx_cons k_passMay (ctx_cons k_New ctx_nil)) (fn := Try.f25) (by kernel_rfl) [] (by kernel_rfl) _ _ fun l hfit => ⟨rfl,
    [(5, invX Nat [6, 7, 8, 25, 26, 27, 28, 29, 30, 31, 32, 33, 34, 35, 36, 37, 38, 39, 40] [4, 38] (fun i => i ≤ l.length) (fun i => match i with
      | 0 => fun st => withS [(25, .int .i64 0)] (withB [(4, (61, [.nilS (.nodes []), .nilS (.cuts []), .nilS (.msgs [])]))] st)
      | i + 1 => fun st => withS [(25, .int .i64 ((i + 1 : Nat) : Int))] (withR [(38, .own (.nodes ((l.take (i + 1)).map upN)))] (withB [(4, (61, [.own 38, .nilS (.cuts []), .nilS (.msgs [])]))] st))) (fun i => l.length - i))], ?_⟩
  clear hfit
  (repeat' (first | ((with_reducible refine BdI ?_); (first | ((with_reducible refine SqI ?_ (fun Kv hN hX hR => ?_)); (next => exact rfl)) | ((with_reducible refine JnI ?_ ?_); (next => exact rfl)) | (conv => whnf))) | (with_reducible first | refine BdS (fun Kv hN hX hR => ?_) | refine Stop.mk ?_ | refine Join.mk ⟨fun Kv hN hX hR => ?_, ?_⟩ | refine DrawJ.each ?_ | exact SubJ.self _) | with_reducible refine SubJ.of ?_ | (with_reducible first | refine FlS (fun Kf hF => ?_) | refine FlN ?_ | refine NdS (fun Kg hG => ?_) | (refine hF _ _ ?_; clear hF; clear Kf) | (refine hG _ _ _ _ ?_; clear hG; clear Kg)) | ((with_reducible refine SqI ?_ (fun Kv hN hX hR => ?_)); (next => exact rfl)) | ((with_reducible refine JnI ?_ ?_); (next => exact rfl)) | ((with_reducible first | refine hN _ ?_ | refine hX _ _ ?_ | refine hR _ ?_); (try (clear hG; clear Kg)); clear hN hX hR; clear Kv) | ((conv => whnf); first | (with_reducible first | rfl | exact True.intro | refine (fun (_ : (_ : Prop)) => ?_) | refine And.intro ?_ ?_) | ((with_reducible first | refine hN _ ?_ | refine hX _ _ ?_ | refine hR _ ?_); (try (clear hG; clear Kg)); clear hN hX hR; clear Kv) | (with_reducible first | refine BdS (fun Kv hN hX hR => ?_) | refine Stop.mk ?_ | refine Join.mk ⟨fun Kv hN hX hR => ?_, ?_⟩ | refine DrawJ.each ?_ | exact SubJ.self _) | with_reducible refine SubJ.of ?_ | (with_reducible first | refine FlS (fun Kf hF => ?_) | refine FlN ?_ | refine NdS (fun Kg hG => ?_) | (refine hF _ _ ?_; clear hF; clear Kf) | (refine hG _ _ _ _ ?_; clear hG; clear Kg))))); all_goals (conv => whnf); all_goals (repeat ((try (clear hG; clear Kg)); clear hN hX hR; clear Kv))
  all_goals first
    | (have h := of_decide_eq_true (show decide ((l.length : Int) = 0) = true by with_reducible assumption)
       rw [newW_no (fun g => by have := g.1; omega)] <;> rfl)
    | (have h := of_decide_eq_true (show decide ((8 : Int) < (l.length : Nat)) = true by with_reducible assumption)
       rw [newW_no (fun g => by have := g.2.1; omega)] <;> rfl)
    | (have h := nf (show (!passB l) = true by with_reducible assumption)
       rw [newW_no (fun g => by rw [g.2.2] at h; simp at h)] <;> rfl)
    | (have n1 := of_decide_eq_false (show decide ((l.length : Int) = 0) = false by with_reducible assumption)
       have n2 := of_decide_eq_false (show decide ((8 : Int) < (l.length : Nat)) = false by with_reducible assumption)
       have n3 := nt (show (!passB l) = false by with_reducible assumption)
       have hy := newW_yes (ids := l) (by omega) (by omega) n3
       have hpl := (passB_iff.1 n3).2.2
       first
         | (refine ⟨0, Nat.zero_le _, ?_⟩
            (repeat' (first | ((with_reducible refine BdI ?_); (first | ((with_reducible refine SqI ?_ (fun Kv hN hX hR => ?_)); (next => exact rfl)) | ((with_reducible refine JnI ?_ ?_); (next => exact rfl)) | (conv => whnf))) | (with_reducible first | refine BdS (fun Kv hN hX hR => ?_) | refine Stop.mk ?_ | refine Join.mk ⟨fun Kv hN hX hR => ?_, ?_⟩ | refine DrawJ.each ?_ | exact SubJ.self _) | with_reducible refine SubJ.of ?_ | (with_reducible first | refine FlS (fun Kf hF => ?_) | refine FlN ?_ | refine NdS (fun Kg hG => ?_) | (refine hF _ _ ?_; clear hF; clear Kf) | (refine hG _ _ _ _ ?_; clear hG; clear Kg)) | ((with_reducible refine SqI ?_ (fun Kv hN hX hR => ?_)); (next => exact rfl)) | ((with_reducible refine JnI ?_ ?_); (next => exact rfl)) | ((with_reducible first | refine hN _ ?_ | refine hX _ _ ?_ | refine hR _ ?_); (try (clear hG; clear Kg)); clear hN hX hR; clear Kv) | ((conv => whnf); first | (with_reducible first | rfl | exact True.intro | intro _ | refine And.intro ?_ ?_) | ((with_reducible first | refine hN _ ?_ | refine hX _ _ ?_ | refine hR _ ?_); (try (clear hG; clear Kg)); clear hN hX hR; clear Kv) | (with_reducible first | refine BdS (fun Kv hN hX hR => ?_) | refine Stop.mk ?_ | refine Join.mk ⟨fun Kv hN hX hR => ?_, ?_⟩ | refine DrawJ.each ?_ | exact SubJ.self _) | with_reducible refine SubJ.of ?_ | (with_reducible first | refine FlS (fun Kf hF => ?_) | refine FlN ?_ | refine NdS (fun Kg hG => ?_) | (refine hF _ _ ?_; clear hF; clear Kf) | (refine hG _ _ _ _ ?_; clear hG; clear Kg))))); all_goals (conv => whnf); all_goals (repeat ((try (clear hG; clear Kg)); clear hN hX hR; clear Kv))
            all_goals rfl)
         | (with_reducible intro i hi
            have hi : i ≤ l.length := hi
            rcases i with _ | i
            all_goals
              (repeat' (first | ((with_reducible refine BdI ?_); (first | ((with_reducible refine SqI ?_ (fun Kv hN hX hR => ?_)); (next => exact rfl)) | ((with_reducible refine JnI ?_ ?_); (next => exact rfl)) | (conv => whnf))) | (with_reducible first | refine BdS (fun Kv hN hX hR => ?_) | refine Stop.mk ?_ | refine Join.mk ⟨fun Kv hN hX hR => ?_, ?_⟩ | refine DrawJ.each ?_ | exact SubJ.self _) | with_reducible refine SubJ.of ?_ | (with_reducible first | refine FlS (fun Kf hF => ?_) | refine FlN ?_ | refine NdS (fun Kg hG => ?_) | (refine hF _ _ ?_; clear hF; clear Kf) | (refine hG _ _ _ _ ?_; clear hG; clear Kg)) | ((with_reducible refine SqI ?_ (fun Kv hN hX hR => ?_)); (next => exact rfl)) | ((with_reducible refine JnI ?_ ?_); (next => exact rfl)) | ((with_reducible first | refine hN _ ?_ | refine hX _ _ ?_ | refine hR _ ?_); (try (clear hG; clear Kg)); clear hN hX hR; clear Kv) | ((conv => whnf); first | (with_reducible first | rfl | exact True.intro | intro _ | refine And.intro ?_ ?_) | ((with_reducible first | refine hN _ ?_ | refine hX _ _ ?_ | refine hR _ ?_); (try (clear hG; clear Kg)); clear hN hX hR; clear Kv) | (with_reducible first | refine BdS (fun Kv hN hX hR => ?_) | refine Stop.mk ?_ | refine Join.mk ⟨fun Kv hN hX hR => ?_, ?_⟩ | refine DrawJ.each ?_ | exact SubJ.self _) | with_reducible refine SubJ.of ?_ | (with_reducible first | refine FlS (fun Kf hF => ?_) | refine FlN ?_ | refine NdS (fun Kg hG => ?_) | (refine hF _ _ ?_; clear hF; clear Kf) | (refine hG _ _ _ _ ?_; clear hG; clear Kg))))); all_goals (conv => whnf); all_goals (repeat ((try (clear hG; clear Kg)); clear hN hX hR; clear Kv))
            all_goals (try simp only [Int.toNat_natCast, Int.toNat_zero, etaNd, List.nil_append] at *)
            all_goals first
              | exact Ob.mk ⟨by omega, of_decide_eq_true (by with_reducible assumption)⟩
              | (refine Ob.mk ?_
                 simp only [Rw.len, Rw.bts, Rw.kd, kdBytes, List.length_cons, List.length_nil, List.length_map, List.length_take]
                 omega)
              | (have h := of_decide_eq_true (show decide ((0 : Int) < (l.length : Nat)) = true by with_reducible assumption)
                 have e1 := newN_up (hpl _ (getD_mem (d := (0 : Int)) (show 0 < l.length by omega)))
                 have e2 := up_one (show 0 < l.length by omega)
                 refine ⟨1, by show 1 ≤ l.length; omega, by omega, ?_⟩
                 (repeat' (first | ((with_reducible refine BdI ?_); (first | ((with_reducible refine SqI ?_ (fun Kv hN hX hR => ?_)); (next => exact rfl)) | ((with_reducible refine JnI ?_ ?_); (next => exact rfl)) | (conv => whnf))) | (with_reducible first | refine BdS (fun Kv hN hX hR => ?_) | refine Stop.mk ?_ | refine Join.mk ⟨fun Kv hN hX hR => ?_, ?_⟩ | refine DrawJ.each ?_ | exact SubJ.self _) | with_reducible refine SubJ.of ?_ | (with_reducible first | refine FlS (fun Kf hF => ?_) | refine FlN ?_ | refine NdS (fun Kg hG => ?_) | (refine hF _ _ ?_; clear hF; clear Kf) | (refine hG _ _ _ _ ?_; clear hG; clear Kg)) | ((with_reducible refine SqI ?_ (fun Kv hN hX hR => ?_)); (next => exact rfl)) | ((with_reducible refine JnI ?_ ?_); (next => exact rfl)) | ((with_reducible first | refine hN _ ?_ | refine hX _ _ ?_ | refine hR _ ?_); (try (clear hG; clear Kg)); clear hN hX hR; clear Kv) | ((conv => whnf); first | (with_reducible first | rfl | exact True.intro | intro _ | refine And.intro ?_ ?_) | ((with_reducible first | refine hN _ ?_ | refine hX _ _ ?_ | refine hR _ ?_); (try (clear hG; clear Kg)); clear hN hX hR; clear Kv) | (with_reducible first | refine BdS (fun Kv hN hX hR => ?_) | refine Stop.mk ?_ | refine Join.mk ⟨fun Kv hN hX hR => ?_, ?_⟩ | refine DrawJ.each ?_ | exact SubJ.self _) | with_reducible refine SubJ.of ?_ | (with_reducible first | refine FlS (fun Kf hF => ?_) | refine FlN ?_ | refine NdS (fun Kg hG => ?_) | (refine hF _ _ ?_; clear hF; clear Kf) | (refine hG _ _ _ _ ?_; clear hG; clear Kg))))); all_goals (conv => whnf); all_goals (repeat ((try (clear hG; clear Kg)); clear hN hX hR; clear Kv))
                 all_goals first
                   | exact wrapI (by omega) (by omega)
                   | (refine congrArg Rw.nodes ?_
                      rw [e2, e1]
                      done)
                   | rfl
                   | trace_state)
              | (have h := of_decide_eq_true (show decide (((i + 1 : Nat) : Int) < (l.length : Nat)) = true by with_reducible assumption)
                 have e1 := newN_up (hpl _ (getD_mem (d := (0 : Int)) (show i + 1 < l.length by omega)))
                 have e2 := up_succ (show i + 1 < l.length by omega)
                 refine ⟨i + 1 + 1, by show i + 1 + 1 ≤ l.length; omega, by omega, ?_⟩
                 (repeat' (first | ((with_reducible refine BdI ?_); (first | ((with_reducible refine SqI ?_ (fun Kv hN hX hR => ?_)); (next => exact rfl)) | ((with_reducible refine JnI ?_ ?_); (next => exact rfl)) | (conv => whnf))) | (with_reducible first | refine BdS (fun Kv hN hX hR => ?_) | refine Stop.mk ?_ | refine Join.mk ⟨fun Kv hN hX hR => ?_, ?_⟩ | refine DrawJ.each ?_ | exact SubJ.self _) | with_reducible refine SubJ.of ?_ | (with_reducible first | refine FlS (fun Kf hF => ?_) | refine FlN ?_ | refine NdS (fun Kg hG => ?_) | (refine hF _ _ ?_; clear hF; clear Kf) | (refine hG _ _ _ _ ?_; clear hG; clear Kg)) | ((with_reducible refine SqI ?_ (fun Kv hN hX hR => ?_)); (next => exact rfl)) | ((with_reducible refine JnI ?_ ?_); (next => exact rfl)) | ((with_reducible first | refine hN _ ?_ | refine hX _ _ ?_ | refine hR _ ?_); (try (clear hG; clear Kg)); clear hN hX hR; clear Kv) | ((conv => whnf); first | (with_reducible first | rfl | exact True.intro | intro _ | refine And.intro ?_ ?_) | ((with_reducible first | refine hN _ ?_ | refine hX _ _ ?_ | refine hR _ ?_); (try (clear hG; clear Kg)); clear hN hX hR; clear Kv) | (with_reducible first | refine BdS (fun Kv hN hX hR => ?_) | refine Stop.mk ?_ | refine Join.mk ⟨fun Kv hN hX hR => ?_, ?_⟩ | refine DrawJ.each ?_ | exact SubJ.self _) | with_reducible refine SubJ.of ?_ | (with_reducible first | refine FlS (fun Kf hF => ?_) | refine FlN ?_ | refine NdS (fun Kg hG => ?_) | (refine hF _ _ ?_; clear hF; clear Kf) | (refine hG _ _ _ _ ?_; clear hG; clear Kg))))); all_goals (conv => whnf); all_goals (repeat ((try (clear hG; clear Kg)); clear hN hX hR; clear Kv))
                 all_goals first
                   | exact wrapI (by omega) (by omega)
                   | (refine congrArg Rw.nodes ?_
                      rw [e2, e1]
                      done)
                   | rfl
                   | trace_state)
              | (exfalso
                 have h := of_decide_eq_false (show decide ((0 : Int) < (l.length : Nat)) = false by with_reducible assumption)
                 omega)
              | (have h := of_decide_eq_false (show decide (((i + 1 : Nat) : Int) < (l.length : Nat)) = false by with_reducible assumption)
                 rw [hy]
                 first
                   | done
                   | rfl
                   | rw [List.take_of_length_le (by omega)])
              | trace_state)
         | trace_state)
    | trace_state
noncomputable def sendW (w : GWorld) (ms : List GMsg) : GWorld × Int := Classical.choose (seal_ex (if worldB w = true ∧ worldB ⟨w.nodes, w.cuts, ms⟩ = true then ((⟨w.nodes, w.cuts, w.packets ++ ms.take (512 - w.packets.length)⟩ : GWorld), (0 : Int)) else (worldZ, 2300)))
theorem sendW_def (w : GWorld) (ms : List GMsg) : sendW w ms = if worldB w = true ∧ worldB ⟨w.nodes, w.cuts, ms⟩ = true then ((⟨w.nodes, w.cuts, w.packets ++ ms.take (512 - w.packets.length)⟩ : GWorld), (0 : Int)) else (worldZ, 2300) := Classical.choose_spec (seal_ex _)
theorem sendW_no {w : GWorld} {ms : List GMsg} (h : worldB w = false ∨ worldB ⟨w.nodes, w.cuts, ms⟩ = false) : sendW w ms = (worldZ, 2300) := by
  rw [sendW_def, if_neg]
  rintro ⟨h1, h2⟩
  rcases h with h | h <;> simp_all
theorem sendW_yes {w : GWorld} {ms : List GMsg} (h1 : worldB w = true) (h2 : worldB ⟨w.nodes, w.cuts, ms⟩ = true) : sendW w ms = (⟨w.nodes, w.cuts, w.packets ++ ms.take (512 - w.packets.length)⟩, 0) := by rw [sendW_def, if_pos ⟨h1, h2⟩]
noncomputable def oSendW (w : GWorld) (ms : List GMsg) : Out := .ok (.tup [.agg [.own 0, .own 1, .own 2], .int .i64 (sendW w ms).2]) (wOwn (sendW w ms).1)
theorem room_take {p ms : List GMsg} (hp : p.length ≤ 512) (hm : ms.length ≤ 512) : 0 ≤ (if IntKind.i64.wrap (512 - (p.length : Int)) < (ms.length : Int) then IntKind.i64.wrap (512 - (p.length : Int)) else (ms.length : Int)) ∧ (if IntKind.i64.wrap (512 - (p.length : Int)) < (ms.length : Int) then IntKind.i64.wrap (512 - (p.length : Int)) else (ms.length : Int)) ≤ (ms.length : Int) ∧ ms.take (if IntKind.i64.wrap (512 - (p.length : Int)) < (ms.length : Int) then IntKind.i64.wrap (512 - (p.length : Int)) else (ms.length : Int)).toNat = ms.take (512 - p.length) := by
  rw [wrapI (by omega) (by omega)]
  split
  · refine ⟨by omega, by omega, ?_⟩
    congr 1
    omega
  · refine ⟨by omega, by omega, ?_⟩
    rw [List.take_of_length_le (by omega), List.take_of_length_le (by omega)]
set_option maxHeartbeats 4000000 in
theorem k_worldSend : Known Try.prog tau 24 (S2 dWorld dMsgs oSendW) := by
  refine known2 hmix tau_ok (ctx_cons k_worldMay (ctx_cons k_worldCopy (ctx_cons k_qCopy ctx_nil))) (fn := Try.f24) (by kernel_rfl) [(7, [(0, 0), (1, 1), (2, 0), (3, 0), (4, 8), (5, 0), (6, 48), (7, 68), (8, 128), (9, 258), (10, 1023), (11, 2047)])] (by kernel_rfl) _ _ _ fun w ms hfit => ⟨rfl, [], ?_⟩
  clear hfit
  (repeat' (first | ((with_reducible refine BdI ?_); (first | ((with_reducible refine SqI ?_ (fun Kv hN hX hR => ?_)); (next => exact rfl)) | ((with_reducible refine JnI ?_ ?_); (next => exact rfl)) | (conv => whnf))) | (with_reducible first | refine BdS (fun Kv hN hX hR => ?_) | refine Stop.mk ?_ | refine Join.mk ⟨fun Kv hN hX hR => ?_, ?_⟩ | refine DrawJ.each ?_ | exact SubJ.self _) | with_reducible refine SubJ.of ?_ | (with_reducible first | refine FlS (fun Kf hF => ?_) | refine FlN ?_ | refine NdS (fun Kg hG => ?_) | (refine hF _ _ ?_; clear hF; clear Kf) | (refine hG _ _ _ _ ?_; clear hG; clear Kg)) | ((with_reducible refine SqI ?_ (fun Kv hN hX hR => ?_)); (next => exact rfl)) | ((with_reducible refine JnI ?_ ?_); (next => exact rfl)) | ((with_reducible first | refine hN _ ?_ | refine hX _ _ ?_ | refine hR _ ?_); (try (clear hG; clear Kg)); clear hN hX hR; clear Kv) | ((conv => whnf); first | (with_reducible first | rfl | exact True.intro | intro _ | refine And.intro ?_ ?_) | ((with_reducible first | refine hN _ ?_ | refine hX _ _ ?_ | refine hR _ ?_); (try (clear hG; clear Kg)); clear hN hX hR; clear Kv) | (with_reducible first | refine BdS (fun Kv hN hX hR => ?_) | refine Stop.mk ?_ | refine Join.mk ⟨fun Kv hN hX hR => ?_, ?_⟩ | refine DrawJ.each ?_ | exact SubJ.self _) | with_reducible refine SubJ.of ?_ | (with_reducible first | refine FlS (fun Kf hF => ?_) | refine FlN ?_ | refine NdS (fun Kg hG => ?_) | (refine hF _ _ ?_; clear hF; clear Kf) | (refine hG _ _ _ _ ?_; clear hG; clear Kg))))); all_goals (conv => whnf); all_goals (repeat ((try (clear hG; clear Kg)); clear hN hX hR; clear Kv))
  all_goals (try simp only [etaWorld] at *)
  all_goals first
    | (rw [sendW_no (.inl (nf (show (!worldB w) = true by with_reducible assumption)))] <;> rfl)
    | (rw [sendW_no (.inr (nf (show (!worldB ⟨w.nodes, w.cuts, ms⟩) = true by with_reducible assumption)))] <;> rfl)
    | (have h1 := nt (show (!worldB w) = false by with_reducible assumption)
       have h2 := nt (show (!worldB ⟨w.nodes, w.cuts, ms⟩) = false by with_reducible assumption)
       have l1 := (queueB_iff2.1 (worldB_iff.1 h1).2.2.1).1
       have l2 := (queueB_iff2.1 (worldB_iff.1 h2).2.2.1).1
       have l2 : ms.length ≤ 512 := l2
       obtain ⟨r1, r2, r3⟩ := room_take l1 l2
       have hy := sendW_yes h1 h2
       first
         | exact Ob.mk ⟨by omega, r1, r2⟩
         | (refine Ob.mk ?_
            simp only [Rw.len, Rw.bts, Rw.kd, kdBytes, List.length_drop, List.length_take]
            omega)
         | (rw [hy]
            first
              | done
              | rfl
              | (refine congrArg Rw.msgs ?_
                 rw [show ∀ l : List GMsg, l.drop (Int.toNat 0) = l from fun l => rfl, r3])
              | trace_state)
         | trace_state)
    | trace_state
set_option maxHeartbeats 4000000 in
theorem k_SameWorld : Known Try.prog tau 27 (S2 dWorld dWorld fun a b => okB (decide (a = b))) := by
  refine known2 hmix tau_ok (ctx_cons k_SameNode (ctx_cons k_SameCuts (ctx_cons k_SameMsgs ctx_nil))) (fn := Try.f27) (by kernel_rfl) [(6, [(0, 0), (1, 1), (2, 0), (3, 6), (4, 8), (5, 0), (6, 32), (7, 0), (8, 192), (9, 256), (10, 528), (11, 1024)])] (by kernel_rfl) _ _ _ fun x y hfit => ⟨rfl,
    [(4, invN [4, 5, 13, 14, 15, 16, 17, 18, 19, 20, 21, 22, 23, 24, 25, 26, 27, 28, 29, 30, 31] (fun i => i ≤ x.nodes.length ∧ ∀ j, j < i → x.nodes.getD j default = y.nodes.getD j default) (fun i => withS [(5, .int .i64 i)]) (fun i => x.nodes.length - i))], ?_⟩
  have hlen : x.nodes.length * 112 ≤ 140737488355328 := hfit.1.1.1
  clear hfit
  (repeat' (first | ((with_reducible refine BdI ?_); (first | ((with_reducible refine SqI ?_ (fun Kv hN hX hR => ?_)); (next => exact rfl)) | ((with_reducible refine JnI ?_ ?_); (next => exact rfl)) | (conv => whnf))) | (with_reducible first | refine BdS (fun Kv hN hX hR => ?_) | refine Stop.mk ?_ | refine Join.mk ⟨fun Kv hN hX hR => ?_, ?_⟩ | refine DrawJ.each ?_ | exact SubJ.self _) | with_reducible refine SubJ.of ?_ | (with_reducible first | refine FlS (fun Kf hF => ?_) | refine FlN ?_ | refine NdS (fun Kg hG => ?_) | (refine hF _ _ ?_; clear hF; clear Kf) | (refine hG _ _ _ _ ?_; clear hG; clear Kg)) | ((with_reducible refine SqI ?_ (fun Kv hN hX hR => ?_)); (next => exact rfl)) | ((with_reducible refine JnI ?_ ?_); (next => exact rfl)) | ((with_reducible first | refine hN _ ?_ | refine hX _ _ ?_ | refine hR _ ?_); (try (clear hG; clear Kg)); clear hN hX hR; clear Kv) | ((conv => whnf); first | (with_reducible first | rfl | exact True.intro | refine (fun (_ : (_ : Prop)) => ?_) | refine And.intro ?_ ?_) | ((with_reducible first | refine hN _ ?_ | refine hX _ _ ?_ | refine hR _ ?_); (try (clear hG; clear Kg)); clear hN hX hR; clear Kv) | (with_reducible first | refine BdS (fun Kv hN hX hR => ?_) | refine Stop.mk ?_ | refine Join.mk ⟨fun Kv hN hX hR => ?_, ?_⟩ | refine DrawJ.each ?_ | exact SubJ.self _) | with_reducible refine SubJ.of ?_ | (with_reducible first | refine FlS (fun Kf hF => ?_) | refine FlN ?_ | refine NdS (fun Kg hG => ?_) | (refine hF _ _ ?_; clear hF; clear Kf) | (refine hG _ _ _ _ ?_; clear hG; clear Kg))))); all_goals (conv => whnf); all_goals (repeat ((try (clear hG; clear Kg)); clear hN hX hR; clear Kv))
  all_goals first
    | (have h := of_decide_eq_false (nf (show (!decide ((x.nodes.length : Int) = (y.nodes.length : Nat))) = true by with_reducible assumption))
       exact (decide_eq_false (fun e => h (by rw [e]))).symm)
    | (refine ⟨0, ⟨by omega, by intros; omega⟩, ?_⟩
       (repeat' (first | ((with_reducible refine BdI ?_); (first | ((with_reducible refine SqI ?_ (fun Kv hN hX hR => ?_)); (next => exact rfl)) | ((with_reducible refine JnI ?_ ?_); (next => exact rfl)) | (conv => whnf))) | (with_reducible first | refine BdS (fun Kv hN hX hR => ?_) | refine Stop.mk ?_ | refine Join.mk ⟨fun Kv hN hX hR => ?_, ?_⟩ | refine DrawJ.each ?_ | exact SubJ.self _) | with_reducible refine SubJ.of ?_ | (with_reducible first | refine FlS (fun Kf hF => ?_) | refine FlN ?_ | refine NdS (fun Kg hG => ?_) | (refine hF _ _ ?_; clear hF; clear Kf) | (refine hG _ _ _ _ ?_; clear hG; clear Kg)) | ((with_reducible refine SqI ?_ (fun Kv hN hX hR => ?_)); (next => exact rfl)) | ((with_reducible refine JnI ?_ ?_); (next => exact rfl)) | ((with_reducible first | refine hN _ ?_ | refine hX _ _ ?_ | refine hR _ ?_); (try (clear hG; clear Kg)); clear hN hX hR; clear Kv) | ((conv => whnf); first | (with_reducible first | rfl | exact True.intro | intro _ | refine And.intro ?_ ?_) | ((with_reducible first | refine hN _ ?_ | refine hX _ _ ?_ | refine hR _ ?_); (try (clear hG; clear Kg)); clear hN hX hR; clear Kv) | (with_reducible first | refine BdS (fun Kv hN hX hR => ?_) | refine Stop.mk ?_ | refine Join.mk ⟨fun Kv hN hX hR => ?_, ?_⟩ | refine DrawJ.each ?_ | exact SubJ.self _) | with_reducible refine SubJ.of ?_ | (with_reducible first | refine FlS (fun Kf hF => ?_) | refine FlN ?_ | refine NdS (fun Kg hG => ?_) | (refine hF _ _ ?_; clear hF; clear Kf) | (refine hG _ _ _ _ ?_; clear hG; clear Kg))))); all_goals (conv => whnf); all_goals (repeat ((try (clear hG; clear Kg)); clear hN hX hR; clear Kv))
       all_goals rfl)
    | (with_reducible intro i hi
       have hl : (x.nodes.length : Int) = y.nodes.length := of_decide_eq_true (nt (by with_reducible assumption))
       (repeat' (first | ((with_reducible refine BdI ?_); (first | ((with_reducible refine SqI ?_ (fun Kv hN hX hR => ?_)); (next => exact rfl)) | ((with_reducible refine JnI ?_ ?_); (next => exact rfl)) | (conv => whnf))) | (with_reducible first | refine BdS (fun Kv hN hX hR => ?_) | refine Stop.mk ?_ | refine Join.mk ⟨fun Kv hN hX hR => ?_, ?_⟩ | refine DrawJ.each ?_ | exact SubJ.self _) | with_reducible refine SubJ.of ?_ | (with_reducible first | refine FlS (fun Kf hF => ?_) | refine FlN ?_ | refine NdS (fun Kg hG => ?_) | (refine hF _ _ ?_; clear hF; clear Kf) | (refine hG _ _ _ _ ?_; clear hG; clear Kg)) | ((with_reducible refine SqI ?_ (fun Kv hN hX hR => ?_)); (next => exact rfl)) | ((with_reducible refine JnI ?_ ?_); (next => exact rfl)) | ((with_reducible first | refine hN _ ?_ | refine hX _ _ ?_ | refine hR _ ?_); (try (clear hG; clear Kg)); clear hN hX hR; clear Kv) | ((conv => whnf); first | (with_reducible first | rfl | exact True.intro | intro _ | refine And.intro ?_ ?_) | ((with_reducible first | refine hN _ ?_ | refine hX _ _ ?_ | refine hR _ ?_); (try (clear hG; clear Kg)); clear hN hX hR; clear Kv) | (with_reducible first | refine BdS (fun Kv hN hX hR => ?_) | refine Stop.mk ?_ | refine Join.mk ⟨fun Kv hN hX hR => ?_, ?_⟩ | refine DrawJ.each ?_ | exact SubJ.self _) | with_reducible refine SubJ.of ?_ | (with_reducible first | refine FlS (fun Kf hF => ?_) | refine FlN ?_ | refine NdS (fun Kg hG => ?_) | (refine hF _ _ ?_; clear hF; clear Kf) | (refine hG _ _ _ _ ?_; clear hG; clear Kg))))); all_goals (conv => whnf); all_goals (repeat ((try (clear hG; clear Kg)); clear hN hX hR; clear Kv))
       all_goals (try simp only [Int.toNat_natCast, etaNd] at *)
       all_goals first
         | (have h := of_decide_eq_true (show decide ((i : Int) < (x.nodes.length : Nat)) = true by with_reducible assumption)
            exact Ob.mk ⟨by omega, by omega⟩)
         | (have h := of_decide_eq_true (show decide ((i : Int) < (x.nodes.length : Nat)) = true by with_reducible assumption)
            first
              | (have h3 := of_decide_eq_false (nf (show (!decide (x.nodes.getD i default = y.nodes.getD i default)) = true by with_reducible assumption))
                 exact (decide_eq_false (fun e => h3 (by rw [e]))).symm)
              | (have h3 : x.nodes.getD i default = y.nodes.getD i default := of_decide_eq_true (nt (by with_reducible assumption))
                 refine ⟨i + 1, ⟨by omega, fun j hj => ?_⟩, by omega, ?_⟩
                 · rcases Nat.lt_succ_iff_lt_or_eq.1 hj with h4 | h4
                   · exact hi.2 j h4
                   · subst h4; exact h3
                 · (repeat' (first | ((with_reducible refine BdI ?_); (first | ((with_reducible refine SqI ?_ (fun Kv hN hX hR => ?_)); (next => exact rfl)) | ((with_reducible refine JnI ?_ ?_); (next => exact rfl)) | (conv => whnf))) | (with_reducible first | refine BdS (fun Kv hN hX hR => ?_) | refine Stop.mk ?_ | refine Join.mk ⟨fun Kv hN hX hR => ?_, ?_⟩ | refine DrawJ.each ?_ | exact SubJ.self _) | with_reducible refine SubJ.of ?_ | (with_reducible first | refine FlS (fun Kf hF => ?_) | refine FlN ?_ | refine NdS (fun Kg hG => ?_) | (refine hF _ _ ?_; clear hF; clear Kf) | (refine hG _ _ _ _ ?_; clear hG; clear Kg)) | ((with_reducible refine SqI ?_ (fun Kv hN hX hR => ?_)); (next => exact rfl)) | ((with_reducible refine JnI ?_ ?_); (next => exact rfl)) | ((with_reducible first | refine hN _ ?_ | refine hX _ _ ?_ | refine hR _ ?_); (try (clear hG; clear Kg)); clear hN hX hR; clear Kv) | ((conv => whnf); first | (with_reducible first | rfl | exact True.intro | intro _ | refine And.intro ?_ ?_) | ((with_reducible first | refine hN _ ?_ | refine hX _ _ ?_ | refine hR _ ?_); (try (clear hG; clear Kg)); clear hN hX hR; clear Kv) | (with_reducible first | refine BdS (fun Kv hN hX hR => ?_) | refine Stop.mk ?_ | refine Join.mk ⟨fun Kv hN hX hR => ?_, ?_⟩ | refine DrawJ.each ?_ | exact SubJ.self _) | with_reducible refine SubJ.of ?_ | (with_reducible first | refine FlS (fun Kf hF => ?_) | refine FlN ?_ | refine NdS (fun Kg hG => ?_) | (refine hF _ _ ?_; clear hF; clear Kf) | (refine hG _ _ _ _ ?_; clear hG; clear Kg))))); all_goals (conv => whnf); all_goals (repeat ((try (clear hG; clear Kg)); clear hN hX hR; clear Kv))
                   all_goals first
                     | exact wrapI (by omega) (by omega)
                     | rfl))
         | (have h := of_decide_eq_false (show decide ((i : Int) < (x.nodes.length : Nat)) = false by with_reducible assumption)
            have hn : x.nodes = y.nodes := eq_of_take (d := default) (by omega) fun j hj => hi.2 j (by omega)
            first
              | (have h1 := of_decide_eq_false (show decide (x.cuts = y.cuts) = false by with_reducible assumption)
                 exact (decide_eq_false fun e => h1 (by rw [e])).symm)
              | (have h1 := of_decide_eq_true (show decide (x.cuts = y.cuts) = true by with_reducible assumption)
                 refine decide_eq_decide.2 ⟨fun h2 => ?_, fun h2 => by rw [h2]⟩
                 obtain ⟨a, b, c⟩ := x
                 obtain ⟨a', b', c'⟩ := y
                 simp only at hn h1 h2
                 rw [hn, h1, h2]))
         | trace_state)
    | trace_state
end Go.Proofs.Ytmhieddhmebfhaa

/- Chapter 23: three nodes; awake; a new world. -/
namespace Go.Proofs.Ytmhieddhmebfhaa
open Go.RowKit
set_option maxRecDepth 20000
def m39 : GMsg := ⟨0, 3, 9, [9], 0, ⟨0, ⟨0, 0⟩, 0, false⟩, false⟩
def m35 : GMsg := ⟨0, 3, 5, [], 0, ⟨0, ⟨0, 0⟩, 0, false⟩, false⟩
theorem new2 : newW [3, 9] = (⟨[upN 3, upN 9], [], []⟩, 0) := newW_yes (by decide) (by decide) (by decide)
theorem new2b : newW [9, 3] = (worldZ, 2300) := newW_no (by decide)
theorem send2 : sendW ⟨[upN 3, upN 9], [], []⟩ [m39] = (⟨[upN 3, upN 9], [], [m39]⟩, 0) := sendW_yes (by decide) (by decide)
theorem send2b : sendW ⟨[upN 3, upN 9], [], []⟩ [m35] = (worldZ, 2300) := sendW_no (.inr (by decide))
theorem may2 : worldB ⟨[upN 3, upN 9], [], [m39]⟩ = true := by decide
set_option maxHeartbeats 4000000 in
set_option maxRecDepth 20000 in
theorem k_awake23 : Known Try.prog tau 22 (S0 (okB true)) := by
  refine known0 hmix tau_ok (ctx_cons k_worldNew (ctx_cons k_worldSend (ctx_cons k_worldMay (ctx_cons k_Num ctx_nil)))) (fn := Try.f22) (by kernel_rfl) [] (by kernel_rfl) _ fun hfit => ⟨rfl, [], ?_⟩
  clear hfit
  have s1 : sendW ⟨[upN 3, upN 9], [], []⟩ [⟨0, 3, 9, [9], 0, ⟨0, ⟨0, 0⟩, 0, false⟩, false⟩] = (⟨[upN 3, upN 9], [], [m39]⟩, 0) := send2
  have s2 : sendW ⟨[upN 3, upN 9], [], []⟩ [⟨0, 3, 5, [], 0, ⟨0, ⟨0, 0⟩, 0, false⟩, false⟩] = (worldZ, 2300) := send2b
  (repeat' (first | ((with_reducible refine BdI ?_); (first | ((with_reducible refine SqI ?_ (fun Kv hN hX hR => ?_)); (next => exact rfl)) | ((with_reducible refine JnI ?_ ?_); (next => exact rfl)) | (conv => whnf))) | (with_reducible first | refine BdS (fun Kv hN hX hR => ?_) | refine Stop.mk ?_ | refine Join.mk ⟨fun Kv hN hX hR => ?_, ?_⟩ | refine DrawJ.each ?_ | exact SubJ.self _) | with_reducible refine SubJ.of ?_ | (with_reducible first | refine FlS (fun Kf hF => ?_) | refine FlN ?_ | refine NdS (fun Kg hG => ?_) | (refine hF _ _ ?_; clear hF; clear Kf) | (refine hG _ _ _ _ ?_; clear hG; clear Kg)) | ((with_reducible refine SqI ?_ (fun Kv hN hX hR => ?_)); (next => exact rfl)) | ((with_reducible refine JnI ?_ ?_); (next => exact rfl)) | ((with_reducible first | refine hN _ ?_ | refine hX _ _ ?_ | refine hR _ ?_); (try (clear hG; clear Kg)); clear hN hX hR; clear Kv) | ((conv => whnf); first | (with_reducible first | rfl | exact True.intro | intro _ | refine And.intro ?_ ?_) | ((with_reducible first | refine hN _ ?_ | refine hX _ _ ?_ | refine hR _ ?_); (try (clear hG; clear Kg)); clear hN hX hR; clear Kv) | (with_reducible first | refine BdS (fun Kv hN hX hR => ?_) | refine Stop.mk ?_ | refine Join.mk ⟨fun Kv hN hX hR => ?_, ?_⟩ | refine DrawJ.each ?_ | exact SubJ.self _) | with_reducible refine SubJ.of ?_ | (with_reducible first | refine FlS (fun Kf hF => ?_) | refine FlN ?_ | refine NdS (fun Kg hG => ?_) | (refine hF _ _ ?_; clear hF; clear Kf) | (refine hG _ _ _ _ ?_; clear hG; clear Kg))))); all_goals (conv => whnf); all_goals (repeat ((try (clear hG; clear Kg)); clear hN hX hR; clear Kv))
  all_goals (try simp only [etaWorld, new2, new2b, s1, s2, may2] at *)
  all_goals first
    | (refine Ob.mk ?_; decide)
    | rfl
    | (exfalso; rename_i h; revert h; decide)
    | trace_state
theorem nodeB_up0 {x : Int} (h : placeB x = true) : nodeB (upN x) = true := by
  simp [nodeB, upN, viewB, peersB, passB, storeB, h]
theorem getD_up {l : List Int} {i : Nat} (h : i < l.length) : (l.map upN).getD i default = upN (l.getD i 0) := by
  rw [List.getD_eq_getElem?_getD, List.getD_eq_getElem?_getD, List.getElem?_map, List.getElem?_eq_getElem h]
  rfl
theorem worldB_up {l : List Int} (h1 : 1 ≤ l.length) (h2 : l.length ≤ 8) (h3 : passB l = true) : worldB ⟨l.map upN, [], []⟩ = true := by
  obtain ⟨p1, p2, p3⟩ := passB_iff.1 h3
  refine worldB_iff.2 ⟨nodesB_iff.2 ⟨by simpa using h1, by simpa using h2, ?_, ?_⟩, (by show cutsB [] = true; decide), (by show queueB [] = true; decide), ?_⟩
  · intro s t hst ht
    have ht : t < (l.map upN).length := ht
    rw [List.length_map] at ht
    show ((l.map upN).getD s default).view.id < ((l.map upN).getD t default).view.id
    rw [getD_up (show s < l.length by omega), getD_up ht]
    exact p2 s t hst ht
  · intro p hp
    obtain ⟨x, hx, rfl⟩ := List.mem_map.1 hp
    exact nodeB_up0 (p3 x hx)
  · have : namedW ⟨l.map upN, [], []⟩ = [] := by
      unfold namedW
      simp only [List.flatMap_nil, List.append_nil]
      rw [List.flatMap_map]
      simp [namedN, upN, namesP]
    rw [this]
    rfl
set_option maxHeartbeats 4000000 in
theorem k_WorldNew : Known Try.prog tau 9 (S1 dInts fun l => okB true) := by
  refine known1 hmix tau_ok (ctx_cons k_awake23 (ctx_cons k_worldNew (ctx_cons k_Num (ctx_cons k_SameWorld (ctx_cons k_worldMay (ctx_cons k_SameNode ctx_nil)))))) (fn := Try.f9) (by kernel_rfl) [(11, ((0, 0) :: (1, 1) :: (2, 0) :: (3, 6) :: (4, 8) :: (5, 0) :: (6, 0) :: (7, 96) :: (8, 128) :: (9, 256) :: (10, 512) :: (11, 1040) :: (12, 2048) :: (13, 6144) :: (14, 8192) :: (15, 24576) :: (16, 40960) :: (17, 65536) :: (18, 65536) :: (19, 327680) :: (20, 720896) :: (21, 1114112) :: (22, 65536) :: (23, 65536) :: (24, 12648448) :: (25, 16842752) :: (26, 35717120) :: (27, 67182592) :: (28, 134225920) :: []))] (by kernel_rfl) _ _ fun l hfit => ⟨rfl,
    [(9, invX Nat (2 :: 5 :: 40 :: 41 :: 42 :: 43 :: 44 :: 45 :: 46 :: 47 :: 48 :: 49 :: 50 :: 51 :: 52 :: 53 :: 54 :: 55 :: 56 :: 57 :: 58 :: 59 :: 60 :: 61 :: 62 :: 63 :: 64 :: 65 :: 66 :: 67 :: 68 :: 69 :: 70 :: 71 :: 72 :: 73 :: 74 :: []) [] (fun i => i ≤ l.length) (fun i => withS [(5, .int .i64 i)]) (fun i => l.length - i))], ?_⟩
  clear hfit
  by_cases hq : 1 ≤ l.length ∧ l.length ≤ 8 ∧ passB l = true
  · obtain ⟨q1, q2, q3⟩ := hq
    have hy := newW_yes q1 q2 q3
    have hw := worldB_up q1 q2 q3
    have hr := (passB_iff.1 q3).2.1
    (repeat' (first | ((with_reducible refine BdI ?_); (first | ((with_reducible refine SqI ?_ (fun Kv hN hX hR => ?_)); (next => exact rfl)) | ((with_reducible refine JnI ?_ ?_); (next => exact rfl)) | (conv => whnf))) | (with_reducible first | refine BdS (fun Kv hN hX hR => ?_) | refine Stop.mk ?_ | refine Join.mk ⟨fun Kv hN hX hR => ?_, ?_⟩ | refine DrawJ.each ?_ | exact SubJ.self _) | with_reducible refine SubJ.of ?_ | (with_reducible first | refine FlS (fun Kf hF => ?_) | refine FlN ?_ | refine NdS (fun Kg hG => ?_) | (refine hF _ _ ?_; clear hF; clear Kf) | (refine hG _ _ _ _ ?_; clear hG; clear Kg)) | ((with_reducible refine SqI ?_ (fun Kv hN hX hR => ?_)); (next => exact rfl)) | ((with_reducible refine JnI ?_ ?_); (next => exact rfl)) | ((with_reducible first | refine hN _ ?_ | refine hX _ _ ?_ | refine hR _ ?_); (try (clear hG; clear Kg)); clear hN hX hR; clear Kv) | ((conv => whnf); first | (with_reducible first | rfl | exact True.intro | refine (fun (_ : (_ : Prop)) => ?_) | refine And.intro ?_ ?_) | ((with_reducible first | refine hN _ ?_ | refine hX _ _ ?_ | refine hR _ ?_); (try (clear hG; clear Kg)); clear hN hX hR; clear Kv) | (with_reducible first | refine BdS (fun Kv hN hX hR => ?_) | refine Stop.mk ?_ | refine Join.mk ⟨fun Kv hN hX hR => ?_, ?_⟩ | refine DrawJ.each ?_ | exact SubJ.self _) | with_reducible refine SubJ.of ?_ | (with_reducible first | refine FlS (fun Kf hF => ?_) | refine FlN ?_ | refine NdS (fun Kg hG => ?_) | (refine hF _ _ ?_; clear hF; clear Kf) | (refine hG _ _ _ _ ?_; clear hG; clear Kg))))); all_goals (conv => whnf); all_goals (repeat ((try (clear hG; clear Kg)); clear hN hX hR; clear Kv))
    all_goals (try simp only [etaWorld, hy, hw, List.length_map, List.length_nil] at *)
    all_goals first
      | exact absurd (show (!true) = true by with_reducible assumption) (by decide)
      | (refine Ob.mk ?_; decide)
      | (exfalso; rename_i h; revert h; decide)
      | (exfalso; rename_i h; simp at h; done)
      | (refine ⟨0, Nat.zero_le _, ?_⟩
         (repeat' (first | ((with_reducible refine BdI ?_); (first | ((with_reducible refine SqI ?_ (fun Kv hN hX hR => ?_)); (next => exact rfl)) | ((with_reducible refine JnI ?_ ?_); (next => exact rfl)) | (conv => whnf))) | (with_reducible first | refine BdS (fun Kv hN hX hR => ?_) | refine Stop.mk ?_ | refine Join.mk ⟨fun Kv hN hX hR => ?_, ?_⟩ | refine DrawJ.each ?_ | exact SubJ.self _) | with_reducible refine SubJ.of ?_ | (with_reducible first | refine FlS (fun Kf hF => ?_) | refine FlN ?_ | refine NdS (fun Kg hG => ?_) | (refine hF _ _ ?_; clear hF; clear Kf) | (refine hG _ _ _ _ ?_; clear hG; clear Kg)) | ((with_reducible refine SqI ?_ (fun Kv hN hX hR => ?_)); (next => exact rfl)) | ((with_reducible refine JnI ?_ ?_); (next => exact rfl)) | ((with_reducible first | refine hN _ ?_ | refine hX _ _ ?_ | refine hR _ ?_); (try (clear hG; clear Kg)); clear hN hX hR; clear Kv) | ((conv => whnf); first | (with_reducible first | rfl | exact True.intro | intro _ | refine And.intro ?_ ?_) | ((with_reducible first | refine hN _ ?_ | refine hX _ _ ?_ | refine hR _ ?_); (try (clear hG; clear Kg)); clear hN hX hR; clear Kv) | (with_reducible first | refine BdS (fun Kv hN hX hR => ?_) | refine Stop.mk ?_ | refine Join.mk ⟨fun Kv hN hX hR => ?_, ?_⟩ | refine DrawJ.each ?_ | exact SubJ.self _) | with_reducible refine SubJ.of ?_ | (with_reducible first | refine FlS (fun Kf hF => ?_) | refine FlN ?_ | refine NdS (fun Kg hG => ?_) | (refine hF _ _ ?_; clear hF; clear Kf) | (refine hG _ _ _ _ ?_; clear hG; clear Kg))))); all_goals (conv => whnf); all_goals (repeat ((try (clear hG; clear Kg)); clear hN hX hR; clear Kv))
         all_goals rfl)
      | (with_reducible intro i hi
         have hi : i ≤ l.length := hi
         (repeat' (first | ((with_reducible refine BdI ?_); (first | ((with_reducible refine SqI ?_ (fun Kv hN hX hR => ?_)); (next => exact rfl)) | ((with_reducible refine JnI ?_ ?_); (next => exact rfl)) | (conv => whnf))) | (with_reducible first | refine BdS (fun Kv hN hX hR => ?_) | refine Stop.mk ?_ | refine Join.mk ⟨fun Kv hN hX hR => ?_, ?_⟩ | refine DrawJ.each ?_ | exact SubJ.self _) | with_reducible refine SubJ.of ?_ | (with_reducible first | refine FlS (fun Kf hF => ?_) | refine FlN ?_ | refine NdS (fun Kg hG => ?_) | (refine hF _ _ ?_; clear hF; clear Kf) | (refine hG _ _ _ _ ?_; clear hG; clear Kg)) | ((with_reducible refine SqI ?_ (fun Kv hN hX hR => ?_)); (next => exact rfl)) | ((with_reducible refine JnI ?_ ?_); (next => exact rfl)) | ((with_reducible first | refine hN _ ?_ | refine hX _ _ ?_ | refine hR _ ?_); (try (clear hG; clear Kg)); clear hN hX hR; clear Kv) | ((conv => whnf); first | (with_reducible first | rfl | exact True.intro | intro _ | refine And.intro ?_ ?_) | ((with_reducible first | refine hN _ ?_ | refine hX _ _ ?_ | refine hR _ ?_); (try (clear hG; clear Kg)); clear hN hX hR; clear Kv) | (with_reducible first | refine BdS (fun Kv hN hX hR => ?_) | refine Stop.mk ?_ | refine Join.mk ⟨fun Kv hN hX hR => ?_, ?_⟩ | refine DrawJ.each ?_ | exact SubJ.self _) | with_reducible refine SubJ.of ?_ | (with_reducible first | refine FlS (fun Kf hF => ?_) | refine FlN ?_ | refine NdS (fun Kg hG => ?_) | (refine hF _ _ ?_; clear hF; clear Kf) | (refine hG _ _ _ _ ?_; clear hG; clear Kg))))); all_goals (conv => whnf); all_goals (repeat ((try (clear hG; clear Kg)); clear hN hX hR; clear Kv))
         all_goals (try simp only [Int.toNat_natCast, etaNd, hy, List.length_map] at *)
         all_goals first
           | (have h := of_decide_eq_true (show decide ((i : Int) < (l.length : Nat)) = true by with_reducible assumption)
              have hl : i < l.length := by omega
              have hg := getD_up hl
              first
                | exact Ob.mk ⟨by omega, by omega⟩
                | (have h0 := of_decide_eq_true (show decide (0 < (i : Int)) = true by with_reducible assumption)
                   have hb := back1 (i := i) (by omega) (by omega)
                   exact Ob.mk (by rw [hb.2]; omega))
                | (exfalso
                   have h3 : (!decide ((l.map upN).getD i default = ⟨true, ⟨l.getD i 0, [], []⟩, [], []⟩)) = true := by with_reducible assumption
                   exact of_decide_eq_false (nf h3) hg)
                | (exfalso
                   have h0 := of_decide_eq_true (show decide (0 < (i : Int)) = true by with_reducible assumption)
                   have hb := back1 (i := i) (by omega) (by omega)
                   have h3 := of_decide_eq_true (show decide (l.getD i 0 ≤ l.getD (IntKind.i64.wrap ((i : Int) - 1)).toNat 0) = true by with_reducible assumption)
                   rw [hb.1] at h3
                   have := hr (i - 1) i (by omega) hl
                   omega)
                | (refine ⟨i + 1, hl, by omega, ?_⟩
                   (repeat' (first | ((with_reducible refine BdI ?_); (first | ((with_reducible refine SqI ?_ (fun Kv hN hX hR => ?_)); (next => exact rfl)) | ((with_reducible refine JnI ?_ ?_); (next => exact rfl)) | (conv => whnf))) | (with_reducible first | refine BdS (fun Kv hN hX hR => ?_) | refine Stop.mk ?_ | refine Join.mk ⟨fun Kv hN hX hR => ?_, ?_⟩ | refine DrawJ.each ?_ | exact SubJ.self _) | with_reducible refine SubJ.of ?_ | (with_reducible first | refine FlS (fun Kf hF => ?_) | refine FlN ?_ | refine NdS (fun Kg hG => ?_) | (refine hF _ _ ?_; clear hF; clear Kf) | (refine hG _ _ _ _ ?_; clear hG; clear Kg)) | ((with_reducible refine SqI ?_ (fun Kv hN hX hR => ?_)); (next => exact rfl)) | ((with_reducible refine JnI ?_ ?_); (next => exact rfl)) | ((with_reducible first | refine hN _ ?_ | refine hX _ _ ?_ | refine hR _ ?_); (try (clear hG; clear Kg)); clear hN hX hR; clear Kv) | ((conv => whnf); first | (with_reducible first | rfl | exact True.intro | intro _ | refine And.intro ?_ ?_) | ((with_reducible first | refine hN _ ?_ | refine hX _ _ ?_ | refine hR _ ?_); (try (clear hG; clear Kg)); clear hN hX hR; clear Kv) | (with_reducible first | refine BdS (fun Kv hN hX hR => ?_) | refine Stop.mk ?_ | refine Join.mk ⟨fun Kv hN hX hR => ?_, ?_⟩ | refine DrawJ.each ?_ | exact SubJ.self _) | with_reducible refine SubJ.of ?_ | (with_reducible first | refine FlS (fun Kf hF => ?_) | refine FlN ?_ | refine NdS (fun Kg hG => ?_) | (refine hF _ _ ?_; clear hF; clear Kf) | (refine hG _ _ _ _ ?_; clear hG; clear Kg))))); all_goals (conv => whnf); all_goals (repeat ((try (clear hG; clear Kg)); clear hN hX hR; clear Kv))
                   all_goals first
                     | exact wrapI (by omega) (by omega)
                     | rfl
                     | trace_state)
                | trace_state)
           | rfl
           | trace_state)
      | trace_state
  · have hy := newW_no hq
    (repeat' (first | ((with_reducible refine BdI ?_); (first | ((with_reducible refine SqI ?_ (fun Kv hN hX hR => ?_)); (next => exact rfl)) | ((with_reducible refine JnI ?_ ?_); (next => exact rfl)) | (conv => whnf))) | (with_reducible first | refine BdS (fun Kv hN hX hR => ?_) | refine Stop.mk ?_ | refine Join.mk ⟨fun Kv hN hX hR => ?_, ?_⟩ | refine DrawJ.each ?_ | exact SubJ.self _) | with_reducible refine SubJ.of ?_ | (with_reducible first | refine FlS (fun Kf hF => ?_) | refine FlN ?_ | refine NdS (fun Kg hG => ?_) | (refine hF _ _ ?_; clear hF; clear Kf) | (refine hG _ _ _ _ ?_; clear hG; clear Kg)) | ((with_reducible refine SqI ?_ (fun Kv hN hX hR => ?_)); (next => exact rfl)) | ((with_reducible refine JnI ?_ ?_); (next => exact rfl)) | ((with_reducible first | refine hN _ ?_ | refine hX _ _ ?_ | refine hR _ ?_); (try (clear hG; clear Kg)); clear hN hX hR; clear Kv) | ((conv => whnf); first | (with_reducible first | rfl | exact True.intro | refine (fun (_ : (_ : Prop)) => ?_) | refine And.intro ?_ ?_) | ((with_reducible first | refine hN _ ?_ | refine hX _ _ ?_ | refine hR _ ?_); (try (clear hG; clear Kg)); clear hN hX hR; clear Kv) | (with_reducible first | refine BdS (fun Kv hN hX hR => ?_) | refine Stop.mk ?_ | refine Join.mk ⟨fun Kv hN hX hR => ?_, ?_⟩ | refine DrawJ.each ?_ | exact SubJ.self _) | with_reducible refine SubJ.of ?_ | (with_reducible first | refine FlS (fun Kf hF => ?_) | refine FlN ?_ | refine NdS (fun Kg hG => ?_) | (refine hF _ _ ?_; clear hF; clear Kf) | (refine hG _ _ _ _ ?_; clear hG; clear Kg))))); all_goals (conv => whnf); all_goals (repeat ((try (clear hG; clear Kg)); clear hN hX hR; clear Kv))
    all_goals (try simp only [etaWorld, hy] at *)
    all_goals first
      | exact absurd (show (!true) = true by with_reducible assumption) (by decide)
      | (refine Ob.mk ?_; decide)
      | rfl
      | (exfalso; rename_i h; revert h; decide)
      | exact absurd (show (!decide ((2300 : Int) = 0)) = false by with_reducible assumption) (by decide)
      | trace_state
end Go.Proofs.Ytmhieddhmebfhaa
