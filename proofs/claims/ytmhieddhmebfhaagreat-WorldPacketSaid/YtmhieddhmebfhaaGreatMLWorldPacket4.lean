/- A part of the proof of WorldPacket: F2m, G12, G12b, ClMsgs, DelMsgs, F14a, F14b, ClNodes, ClCuts, F23c, F23d, F14c, SamePeers, SameItems, SameTolds, G16a, SameCuts, F23e, G23a, F23f. -/
import Derived.Test.YtmhieddhmebfhaaGreatMLWorldPacket3
import Derived.Shelf.RegionOpenPlain
import Derived.Lib.Walk
import Derived.Lib.SliceRun
import Derived.Laws.AppendOwn
import Derived.Conc.AppendEvents2
import Derived.WalkKit
import Derived.Deep.LoopGhost
import Derived.Deep.RegionLaw
/- Contracts: the laws' own small functions, of messages. -/
namespace Go.Proofs.YtmhieddhmebfhaaGreat
open Go.RowKit
set_option maxRecDepth 20000

theorem k_SameMsg : Known Tryz.prog tau 30 (S2 dMsg dMsg fun a b => okB (decide (a = b))) := by
  refine known2 hmix tau_ok (ctx_cons k_SameInts ctx_nil) (fn := Tryz.f30) (by kernel_rfl) [] (by kernel_rfl) _ _ _ fun x y hfit => ⟨rfl, [], ?_⟩
  clear hfit
  obtain ⟨kind, src, dst, ids, key, ⟨ik, ⟨ic, iw⟩, iv, ig⟩, has⟩ := x
  obtain ⟨kind', src', dst', ids', key', ⟨ik', ⟨ic', iw'⟩, iv', ig'⟩, has'⟩ := y
  (repeat' (first | ((with_reducible refine BdI ?_); (first | ((with_reducible refine SqI ?_ (fun Kv hN hX hR => ?_)); (next => exact rfl)) | ((with_reducible refine JnI ?_ ?_); (next => exact rfl)) | (conv => whnf))) | (with_reducible first | refine BdS (fun Kv hN hX hR => ?_) | refine Stop.mk ?_ | refine Join.mk ⟨fun Kv hN hX hR => ?_, ?_⟩ | refine DrawJ.each ?_ | exact SubJ.self _) | with_reducible refine SubJ.of ?_ | (with_reducible first | refine FlS (fun Kf hF => ?_) | refine FlN ?_ | refine NdS (fun Kg hG => ?_) | (refine hF _ _ ?_; clear hF; clear Kf) | (refine hG _ _ _ _ ?_; clear hG; clear Kg)) | ((with_reducible refine SqI ?_ (fun Kv hN hX hR => ?_)); (next => exact rfl)) | ((with_reducible refine JnI ?_ ?_); (next => exact rfl)) | ((with_reducible first | refine hN _ ?_ | refine hX _ _ ?_ | refine hR _ ?_); (try (clear hG; clear Kg)); clear hN hX hR; clear Kv) | ((conv => whnf); first | (with_reducible first | rfl | exact True.intro | intro _ | refine And.intro ?_ ?_) | ((with_reducible first | refine hN _ ?_ | refine hX _ _ ?_ | refine hR _ ?_); (try (clear hG; clear Kg)); clear hN hX hR; clear Kv) | (with_reducible first | refine BdS (fun Kv hN hX hR => ?_) | refine Stop.mk ?_ | refine Join.mk ⟨fun Kv hN hX hR => ?_, ?_⟩ | refine DrawJ.each ?_ | exact SubJ.self _) | with_reducible refine SubJ.of ?_ | (with_reducible first | refine FlS (fun Kf hF => ?_) | refine FlN ?_ | refine NdS (fun Kg hG => ?_) | (refine hF _ _ ?_; clear hF; clear Kf) | (refine hG _ _ _ _ ?_; clear hG; clear Kg))))); all_goals (conv => whnf); all_goals (repeat ((try (clear hG; clear Kg)); clear hN hX hR; clear Kv))
  all_goals (try simp_all)
  all_goals (cases has <;> cases has' <;> rfl)
end Go.Proofs.YtmhieddhmebfhaaGreat

/- Chapter 12: the laws' functions. -/
namespace Go.Proofs.YtmhieddhmebfhaaGreat
open Go.RowKit

end Go.Proofs.YtmhieddhmebfhaaGreat

/- Chapter 12: the laws' functions, on. -/
namespace Go.Proofs.YtmhieddhmebfhaaGreat
open Go.RowKit

end Go.Proofs.YtmhieddhmebfhaaGreat

/- slices.Clone at one type: its walk. -/
namespace Go.Proofs.YtmhieddhmebfhaaGreat
open Go.RowKit
set_option maxHeartbeats 1000000 in
theorem w_CloneMsgs : CloneW Tryz.prog 97 70 11 104 := by
  obtain ⟨hk10, het, ti, hti, hsz, hby, _⟩ := tau_ok.rk 70 7 (by kernel_rfl)
  obtain ⟨x0, z, g1, g2, g3, g4, g5, g6⟩ := (tau_ok.ti _ ti hti).info
  have g2 : x0.size = 11 := g2.trans hsz
  have g3 : x0.bytes = 104 := g3.trans hby
  have g5 : z.cells.size = 11 := g5.trans hsz
  clear hk10 het g6
  have t22 : Tryz.prog.underlying 31 = some (.slice 70) := Tryz.underlying31
  have q22 : ∀ (w : World) (a : Option Addr) (n c n' c' : Nat), (binOp .eql 31 (.slice a n c) (.slice none n' c')).run Tryz.prog w = .ok (.bool a.isNone) w := fun w a n c n' c' => Lib.run_eql_slice_nil w _ _ a n c n' c' t22
  refine ⟨fnOk_enters (fn := Tryz.f97) (D := []) (by kernel_rfl) (by kernel_rfl), fun n c w => ?_, fun ad n c news w hl hn hbig hc h1 => ?_⟩
  · go_enter Tryz.func97, Tryz.ntmps97
    go_wp2
    go_ret
    exact ⟨rfl, rfl⟩
  · have A : Aside (∀ j u, news[j]? = some u → w.cell? (ad.add j) = some u) := hc
    clear hc
    go_enter Tryz.func97, Tryz.ntmps97
    go_wp2_with (at_builtin; refine wpList_append_own _ rfl _ _ 31 rfl w.heap.size 70 x0 z 11 104 t22 g1 g4 g2 g3 g5 (by decide) _ _ _ rfl (World.ownsRow_made w #[] 0 (Nat.le_refl _) (Nat.zero_le _) (by simp)) ad n c news rfl ?qc1 ?qc2 ?qc3 ?qc4 ?qc5 ?qc6 ?_)
    case qc1 => exact hl
    case qc2 =>
      intro j u hj
      exact Lib.cell?_alloc_some _ (A.out j u hj)
    case qc3 => exact h1
    case qc4 => rw [Nat.zero_add]; exact hn
    case qc5 => rw [Nat.zero_add]; exact hbig
    case qc6 => simp
    intro v' w1 hown hgrow hnil
    go_wp2
    go_ret
    refine ⟨v', rfl, by simpa using hown, ?_⟩
    exact ((Below.refl _ w).alloc (Nat.le_refl _) _).grown hgrow (by simp) (by intro k hk; simp [Value.ownBlock] at hk; omega)
theorem t_CloneMsgs (q : Nat) : TrKnown Tryz.prog tau 97 (cloneT 7 q) := clone_tr q w_CloneMsgs
end Go.Proofs.YtmhieddhmebfhaaGreat

/- slices.Delete at one type: its walk. -/
namespace Go.Proofs.YtmhieddhmebfhaaGreat
open Go.RowKit Go.Sort
end Go.Proofs.YtmhieddhmebfhaaGreat

/- Contracts: queues: may they be. -/
namespace Go.Proofs.YtmhieddhmebfhaaGreat
open Go.RowKit
set_option maxRecDepth 20000

def queueB (l : List GMsg) : Bool := decide ((l.length : Int) ≤ 512) && l.all mayB
theorem queueB_no {l : List GMsg} (h : l.all mayB = false) : queueB l = false := by unfold queueB; rw [h, Bool.and_false]
theorem k_qMay1 : Known Tryz.prog tau 102 (S1 dMsg fun m => okB (!mayB m)) := by
  refine known1 hmix tau_ok (ctx_cons k_MsgMay ctx_nil) (fn := Tryz.f102) (by kernel_rfl) [] (by kernel_rfl) _ _ fun m hfit => ⟨rfl, [], ?_⟩
  (repeat' (first | ((with_reducible refine BdI ?_); (first | ((with_reducible refine SqI ?_ (fun Kv hN hX hR => ?_)); (next => exact rfl)) | ((with_reducible refine JnI ?_ ?_); (next => exact rfl)) | (conv => whnf))) | (with_reducible first | refine BdS (fun Kv hN hX hR => ?_) | refine Stop.mk ?_ | refine Join.mk ⟨fun Kv hN hX hR => ?_, ?_⟩ | refine DrawJ.each ?_ | exact SubJ.self _) | with_reducible refine SubJ.of ?_ | (with_reducible first | refine FlS (fun Kf hF => ?_) | refine FlN ?_ | refine NdS (fun Kg hG => ?_) | (refine hF _ _ ?_; clear hF; clear Kf) | (refine hG _ _ _ _ ?_; clear hG; clear Kg)) | ((with_reducible refine SqI ?_ (fun Kv hN hX hR => ?_)); (next => exact rfl)) | ((with_reducible refine JnI ?_ ?_); (next => exact rfl)) | ((with_reducible first | refine hN _ ?_ | refine hX _ _ ?_ | refine hR _ ?_); (try (clear hG; clear Kg)); clear hN hX hR; clear Kv) | ((conv => whnf); first | (with_reducible first | rfl | exact True.intro | intro _ | refine And.intro ?_ ?_) | ((with_reducible first | refine hN _ ?_ | refine hX _ _ ?_ | refine hR _ ?_); (try (clear hG; clear Kg)); clear hN hX hR; clear Kv) | (with_reducible first | refine BdS (fun Kv hN hX hR => ?_) | refine Stop.mk ?_ | refine Join.mk ⟨fun Kv hN hX hR => ?_, ?_⟩ | refine DrawJ.each ?_ | exact SubJ.self _) | with_reducible refine SubJ.of ?_ | (with_reducible first | refine FlS (fun Kf hF => ?_) | refine FlN ?_ | refine NdS (fun Kg hG => ?_) | (refine hF _ _ ?_; clear hF; clear Kf) | (refine hG _ _ _ _ ?_; clear hG; clear Kg))))); all_goals (conv => whnf); all_goals (repeat ((try (clear hG; clear Kg)); clear hN hX hR; clear Kv))
theorem k_qIndex : Known Tryz.prog tau 132 (S2 dMsgs (dFn 102) fun l _ => .ok (.int .i64 (idxI (fun m => !mayB m) l)) []) := by
  refine known2 hmix tau_ok (ctx_cons k_qMay1 ctx_nil) (fn := Tryz.f132) (by kernel_rfl) [] (by kernel_rfl) _ _ _ fun xs _ hfit => ⟨rfl,
    [(2, invN [4, 5, 8, 9, 10, 11, 12, 13, 14, 15, 16, 17, 18] (fun i => i ≤ xs.length ∧ ∀ x ∈ xs.take i, (!mayB x) = false) (fun i => withS [(8, .int .i64 i)]) (fun i => xs.length - i))], ?_⟩
  have hlen : xs.length * 104 ≤ 140737488355328 := hfit.1.1
  clear hfit
  (repeat' (first | ((with_reducible refine BdI ?_); (first | ((with_reducible refine SqI ?_ (fun Kv hN hX hR => ?_)); (next => exact rfl)) | ((with_reducible refine JnI ?_ ?_); (next => exact rfl)) | (conv => whnf))) | (with_reducible first | refine BdS (fun Kv hN hX hR => ?_) | refine Stop.mk ?_ | refine Join.mk ⟨fun Kv hN hX hR => ?_, ?_⟩ | refine DrawJ.each ?_ | exact SubJ.self _) | with_reducible refine SubJ.of ?_ | (with_reducible first | refine FlS (fun Kf hF => ?_) | refine FlN ?_ | refine NdS (fun Kg hG => ?_) | (refine hF _ _ ?_; clear hF; clear Kf) | (refine hG _ _ _ _ ?_; clear hG; clear Kg)) | ((with_reducible refine SqI ?_ (fun Kv hN hX hR => ?_)); (next => exact rfl)) | ((with_reducible refine JnI ?_ ?_); (next => exact rfl)) | ((with_reducible first | refine hN _ ?_ | refine hX _ _ ?_ | refine hR _ ?_); (try (clear hG; clear Kg)); clear hN hX hR; clear Kv) | ((conv => whnf); first | (with_reducible first | rfl | exact True.intro | refine (fun (_ : (_ : Prop)) => ?_) | refine And.intro ?_ ?_) | ((with_reducible first | refine hN _ ?_ | refine hX _ _ ?_ | refine hR _ ?_); (try (clear hG; clear Kg)); clear hN hX hR; clear Kv) | (with_reducible first | refine BdS (fun Kv hN hX hR => ?_) | refine Stop.mk ?_ | refine Join.mk ⟨fun Kv hN hX hR => ?_, ?_⟩ | refine DrawJ.each ?_ | exact SubJ.self _) | with_reducible refine SubJ.of ?_ | (with_reducible first | refine FlS (fun Kf hF => ?_) | refine FlN ?_ | refine NdS (fun Kg hG => ?_) | (refine hF _ _ ?_; clear hF; clear Kf) | (refine hG _ _ _ _ ?_; clear hG; clear Kg))))); all_goals (conv => whnf); all_goals (repeat ((try (clear hG; clear Kg)); clear hN hX hR; clear Kv))
  all_goals first
    | (refine ⟨0, ⟨by omega, by simp⟩, ?_⟩
       (repeat' (first | ((with_reducible refine BdI ?_); (first | ((with_reducible refine SqI ?_ (fun Kv hN hX hR => ?_)); (next => exact rfl)) | ((with_reducible refine JnI ?_ ?_); (next => exact rfl)) | (conv => whnf))) | (with_reducible first | refine BdS (fun Kv hN hX hR => ?_) | refine Stop.mk ?_ | refine Join.mk ⟨fun Kv hN hX hR => ?_, ?_⟩ | refine DrawJ.each ?_ | exact SubJ.self _) | with_reducible refine SubJ.of ?_ | (with_reducible first | refine FlS (fun Kf hF => ?_) | refine FlN ?_ | refine NdS (fun Kg hG => ?_) | (refine hF _ _ ?_; clear hF; clear Kf) | (refine hG _ _ _ _ ?_; clear hG; clear Kg)) | ((with_reducible refine SqI ?_ (fun Kv hN hX hR => ?_)); (next => exact rfl)) | ((with_reducible refine JnI ?_ ?_); (next => exact rfl)) | ((with_reducible first | refine hN _ ?_ | refine hX _ _ ?_ | refine hR _ ?_); (try (clear hG; clear Kg)); clear hN hX hR; clear Kv) | ((conv => whnf); first | (with_reducible first | rfl | exact True.intro | intro _ | refine And.intro ?_ ?_) | ((with_reducible first | refine hN _ ?_ | refine hX _ _ ?_ | refine hR _ ?_); (try (clear hG; clear Kg)); clear hN hX hR; clear Kv) | (with_reducible first | refine BdS (fun Kv hN hX hR => ?_) | refine Stop.mk ?_ | refine Join.mk ⟨fun Kv hN hX hR => ?_, ?_⟩ | refine DrawJ.each ?_ | exact SubJ.self _) | with_reducible refine SubJ.of ?_ | (with_reducible first | refine FlS (fun Kf hF => ?_) | refine FlN ?_ | refine NdS (fun Kg hG => ?_) | (refine hF _ _ ?_; clear hF; clear Kf) | (refine hG _ _ _ _ ?_; clear hG; clear Kg))))); all_goals (conv => whnf); all_goals (repeat ((try (clear hG; clear Kg)); clear hN hX hR; clear Kv))
       all_goals rfl)
    | (with_reducible intro i hi
       (repeat' (first | ((with_reducible refine BdI ?_); (first | ((with_reducible refine SqI ?_ (fun Kv hN hX hR => ?_)); (next => exact rfl)) | ((with_reducible refine JnI ?_ ?_); (next => exact rfl)) | (conv => whnf))) | (with_reducible first | refine BdS (fun Kv hN hX hR => ?_) | refine Stop.mk ?_ | refine Join.mk ⟨fun Kv hN hX hR => ?_, ?_⟩ | refine DrawJ.each ?_ | exact SubJ.self _) | with_reducible refine SubJ.of ?_ | (with_reducible first | refine FlS (fun Kf hF => ?_) | refine FlN ?_ | refine NdS (fun Kg hG => ?_) | (refine hF _ _ ?_; clear hF; clear Kf) | (refine hG _ _ _ _ ?_; clear hG; clear Kg)) | ((with_reducible refine SqI ?_ (fun Kv hN hX hR => ?_)); (next => exact rfl)) | ((with_reducible refine JnI ?_ ?_); (next => exact rfl)) | ((with_reducible first | refine hN _ ?_ | refine hX _ _ ?_ | refine hR _ ?_); (try (clear hG; clear Kg)); clear hN hX hR; clear Kv) | ((conv => whnf); first | (with_reducible first | rfl | exact True.intro | intro _ | refine And.intro ?_ ?_) | ((with_reducible first | refine hN _ ?_ | refine hX _ _ ?_ | refine hR _ ?_); (try (clear hG; clear Kg)); clear hN hX hR; clear Kv) | (with_reducible first | refine BdS (fun Kv hN hX hR => ?_) | refine Stop.mk ?_ | refine Join.mk ⟨fun Kv hN hX hR => ?_, ?_⟩ | refine DrawJ.each ?_ | exact SubJ.self _) | with_reducible refine SubJ.of ?_ | (with_reducible first | refine FlS (fun Kf hF => ?_) | refine FlN ?_ | refine NdS (fun Kg hG => ?_) | (refine hF _ _ ?_; clear hF; clear Kf) | (refine hG _ _ _ _ ?_; clear hG; clear Kg))))); all_goals (conv => whnf); all_goals (repeat ((try (clear hG; clear Kg)); clear hN hX hR; clear Kv))
       all_goals (try simp only [Int.toNat_natCast, etaMsg] at *)
       all_goals first
         | exact Ob.mk ⟨by omega, of_decide_eq_true (by with_reducible assumption)⟩
         | (have h := of_decide_eq_true (show decide ((i : Int) < (xs.length : Nat)) = true by with_reducible assumption)
            exact (idxI_at (d := default) (by omega) hi.2 (by with_reducible assumption)).symm)
         | (have h := of_decide_eq_true (show decide ((i : Int) < (xs.length : Nat)) = true by with_reducible assumption)
            refine ⟨i + 1, ⟨by omega, all_take_succ (d := default) (by omega) hi.2 (by with_reducible assumption)⟩, by show xs.length - (i + 1) < xs.length - i; omega, ?_⟩
            (repeat' (first | ((with_reducible refine BdI ?_); (first | ((with_reducible refine SqI ?_ (fun Kv hN hX hR => ?_)); (next => exact rfl)) | ((with_reducible refine JnI ?_ ?_); (next => exact rfl)) | (conv => whnf))) | (with_reducible first | refine BdS (fun Kv hN hX hR => ?_) | refine Stop.mk ?_ | refine Join.mk ⟨fun Kv hN hX hR => ?_, ?_⟩ | refine DrawJ.each ?_ | exact SubJ.self _) | with_reducible refine SubJ.of ?_ | (with_reducible first | refine FlS (fun Kf hF => ?_) | refine FlN ?_ | refine NdS (fun Kg hG => ?_) | (refine hF _ _ ?_; clear hF; clear Kf) | (refine hG _ _ _ _ ?_; clear hG; clear Kg)) | ((with_reducible refine SqI ?_ (fun Kv hN hX hR => ?_)); (next => exact rfl)) | ((with_reducible refine JnI ?_ ?_); (next => exact rfl)) | ((with_reducible first | refine hN _ ?_ | refine hX _ _ ?_ | refine hR _ ?_); (try (clear hG; clear Kg)); clear hN hX hR; clear Kv) | ((conv => whnf); first | (with_reducible first | rfl | exact True.intro | intro _ | refine And.intro ?_ ?_) | ((with_reducible first | refine hN _ ?_ | refine hX _ _ ?_ | refine hR _ ?_); (try (clear hG; clear Kg)); clear hN hX hR; clear Kv) | (with_reducible first | refine BdS (fun Kv hN hX hR => ?_) | refine Stop.mk ?_ | refine Join.mk ⟨fun Kv hN hX hR => ?_, ?_⟩ | refine DrawJ.each ?_ | exact SubJ.self _) | with_reducible refine SubJ.of ?_ | (with_reducible first | refine FlS (fun Kf hF => ?_) | refine FlN ?_ | refine NdS (fun Kg hG => ?_) | (refine hF _ _ ?_; clear hF; clear Kf) | (refine hG _ _ _ _ ?_; clear hG; clear Kg))))); all_goals (conv => whnf); all_goals (repeat ((try (clear hG; clear Kg)); clear hN hX hR; clear Kv))
            all_goals first
              | exact wrapI (by omega) (by omega)
              | rfl)
         | (have h := of_decide_eq_false (show decide ((i : Int) < (xs.length : Nat)) = false by with_reducible assumption)
            have h2 := hi.2
            rw [List.take_of_length_le (by omega)] at h2
            exact (idxI_none h2).symm)
         | skip)
    | skip
theorem k_qContains : Known Tryz.prog tau 104 (S2 dMsgs (dFn 102) fun l _ => okB (l.any fun m => !mayB m)) := by
  refine known2 hmix tau_ok (ctx_cons k_qIndex ctx_nil) (fn := Tryz.f104) (by kernel_rfl) [] (by kernel_rfl) _ _ _ fun xs _ hfit => ⟨rfl, [], ?_⟩
  (repeat' (first | ((with_reducible refine BdI ?_); (first | ((with_reducible refine SqI ?_ (fun Kv hN hX hR => ?_)); (next => exact rfl)) | ((with_reducible refine JnI ?_ ?_); (next => exact rfl)) | (conv => whnf))) | (with_reducible first | refine BdS (fun Kv hN hX hR => ?_) | refine Stop.mk ?_ | refine Join.mk ⟨fun Kv hN hX hR => ?_, ?_⟩ | refine DrawJ.each ?_ | exact SubJ.self _) | with_reducible refine SubJ.of ?_ | (with_reducible first | refine FlS (fun Kf hF => ?_) | refine FlN ?_ | refine NdS (fun Kg hG => ?_) | (refine hF _ _ ?_; clear hF; clear Kf) | (refine hG _ _ _ _ ?_; clear hG; clear Kg)) | ((with_reducible refine SqI ?_ (fun Kv hN hX hR => ?_)); (next => exact rfl)) | ((with_reducible refine JnI ?_ ?_); (next => exact rfl)) | ((with_reducible first | refine hN _ ?_ | refine hX _ _ ?_ | refine hR _ ?_); (try (clear hG; clear Kg)); clear hN hX hR; clear Kv) | ((conv => whnf); first | (with_reducible first | rfl | exact True.intro | intro _ | refine And.intro ?_ ?_) | ((with_reducible first | refine hN _ ?_ | refine hX _ _ ?_ | refine hR _ ?_); (try (clear hG; clear Kg)); clear hN hX hR; clear Kv) | (with_reducible first | refine BdS (fun Kv hN hX hR => ?_) | refine Stop.mk ?_ | refine Join.mk ⟨fun Kv hN hX hR => ?_, ?_⟩ | refine DrawJ.each ?_ | exact SubJ.self _) | with_reducible refine SubJ.of ?_ | (with_reducible first | refine FlS (fun Kf hF => ?_) | refine FlN ?_ | refine NdS (fun Kg hG => ?_) | (refine hF _ _ ?_; clear hF; clear Kf) | (refine hG _ _ _ _ ?_; clear hG; clear Kg))))); all_goals (conv => whnf); all_goals (repeat ((try (clear hG; clear Kg)); clear hN hX hR; clear Kv))
  exact idxI_ge _ _
theorem k_qMay : Known Tryz.prog tau 64 (S1 dMsgs fun l => okB (queueB l)) := by
  refine known1 hmix tau_ok (ctx_cons k_qContains ctx_nil) (fn := Tryz.f64) (by kernel_rfl) [] (by kernel_rfl) _ _ fun xs hfit => ⟨rfl, [], ?_⟩
  clear hfit
  (repeat' (first | ((with_reducible refine BdI ?_); (first | ((with_reducible refine SqI ?_ (fun Kv hN hX hR => ?_)); (next => exact rfl)) | ((with_reducible refine JnI ?_ ?_); (next => exact rfl)) | (conv => whnf))) | (with_reducible first | refine BdS (fun Kv hN hX hR => ?_) | refine Stop.mk ?_ | refine Join.mk ⟨fun Kv hN hX hR => ?_, ?_⟩ | refine DrawJ.each ?_ | exact SubJ.self _) | with_reducible refine SubJ.of ?_ | (with_reducible first | refine FlS (fun Kf hF => ?_) | refine FlN ?_ | refine NdS (fun Kg hG => ?_) | (refine hF _ _ ?_; clear hF; clear Kf) | (refine hG _ _ _ _ ?_; clear hG; clear Kg)) | ((with_reducible refine SqI ?_ (fun Kv hN hX hR => ?_)); (next => exact rfl)) | ((with_reducible refine JnI ?_ ?_); (next => exact rfl)) | ((with_reducible first | refine hN _ ?_ | refine hX _ _ ?_ | refine hR _ ?_); (try (clear hG; clear Kg)); clear hN hX hR; clear Kv) | ((conv => whnf); first | (with_reducible first | rfl | exact True.intro | intro _ | refine And.intro ?_ ?_) | ((with_reducible first | refine hN _ ?_ | refine hX _ _ ?_ | refine hR _ ?_); (try (clear hG; clear Kg)); clear hN hX hR; clear Kv) | (with_reducible first | refine BdS (fun Kv hN hX hR => ?_) | refine Stop.mk ?_ | refine Join.mk ⟨fun Kv hN hX hR => ?_, ?_⟩ | refine DrawJ.each ?_ | exact SubJ.self _) | with_reducible refine SubJ.of ?_ | (with_reducible first | refine FlS (fun Kf hF => ?_) | refine FlN ?_ | refine NdS (fun Kg hG => ?_) | (refine hF _ _ ?_; clear hF; clear Kf) | (refine hG _ _ _ _ ?_; clear hG; clear Kg))))); all_goals (conv => whnf); all_goals (repeat ((try (clear hG; clear Kg)); clear hN hX hR; clear Kv))
  all_goals (cases hA : xs.all mayB <;> simp_all [queueB, any_not] <;> omega)
theorem k_refQueueMay : Known Tryz.prog tau 99 (S1 dMsgs fun l => okB (queueB l)) := by
  refine known1 hmix tau_ok (ctx_cons k_refMsg ctx_nil) (fn := Tryz.f99) (by kernel_rfl) [] (by kernel_rfl) _ _ fun xs hfit => ⟨rfl,
    [(2, invN [2, 3, 4, 5, 6, 7, 8, 9, 10, 11, 12, 13, 14, 15] (fun i => i ≤ xs.length ∧ ∀ x ∈ xs.take i, mayB x = true) (fun i => withS [(3, .int .i64 i)]) (fun i => xs.length - i))], ?_⟩
  have hlen : xs.length * 104 ≤ 140737488355328 := hfit.1.1
  clear hfit
  (repeat' (first | ((with_reducible refine BdI ?_); (first | ((with_reducible refine SqI ?_ (fun Kv hN hX hR => ?_)); (next => exact rfl)) | ((with_reducible refine JnI ?_ ?_); (next => exact rfl)) | (conv => whnf))) | (with_reducible first | refine BdS (fun Kv hN hX hR => ?_) | refine Stop.mk ?_ | refine Join.mk ⟨fun Kv hN hX hR => ?_, ?_⟩ | refine DrawJ.each ?_ | exact SubJ.self _) | with_reducible refine SubJ.of ?_ | (with_reducible first | refine FlS (fun Kf hF => ?_) | refine FlN ?_ | refine NdS (fun Kg hG => ?_) | (refine hF _ _ ?_; clear hF; clear Kf) | (refine hG _ _ _ _ ?_; clear hG; clear Kg)) | ((with_reducible refine SqI ?_ (fun Kv hN hX hR => ?_)); (next => exact rfl)) | ((with_reducible refine JnI ?_ ?_); (next => exact rfl)) | ((with_reducible first | refine hN _ ?_ | refine hX _ _ ?_ | refine hR _ ?_); (try (clear hG; clear Kg)); clear hN hX hR; clear Kv) | ((conv => whnf); first | (with_reducible first | rfl | exact True.intro | refine (fun (_ : (_ : Prop)) => ?_) | refine And.intro ?_ ?_) | ((with_reducible first | refine hN _ ?_ | refine hX _ _ ?_ | refine hR _ ?_); (try (clear hG; clear Kg)); clear hN hX hR; clear Kv) | (with_reducible first | refine BdS (fun Kv hN hX hR => ?_) | refine Stop.mk ?_ | refine Join.mk ⟨fun Kv hN hX hR => ?_, ?_⟩ | refine DrawJ.each ?_ | exact SubJ.self _) | with_reducible refine SubJ.of ?_ | (with_reducible first | refine FlS (fun Kf hF => ?_) | refine FlN ?_ | refine NdS (fun Kg hG => ?_) | (refine hF _ _ ?_; clear hF; clear Kf) | (refine hG _ _ _ _ ?_; clear hG; clear Kg))))); all_goals (conv => whnf); all_goals (repeat ((try (clear hG; clear Kg)); clear hN hX hR; clear Kv))
  all_goals first
    | (refine ⟨0, ⟨by omega, by simp⟩, ?_⟩
       (repeat' (first | ((with_reducible refine BdI ?_); (first | ((with_reducible refine SqI ?_ (fun Kv hN hX hR => ?_)); (next => exact rfl)) | ((with_reducible refine JnI ?_ ?_); (next => exact rfl)) | (conv => whnf))) | (with_reducible first | refine BdS (fun Kv hN hX hR => ?_) | refine Stop.mk ?_ | refine Join.mk ⟨fun Kv hN hX hR => ?_, ?_⟩ | refine DrawJ.each ?_ | exact SubJ.self _) | with_reducible refine SubJ.of ?_ | (with_reducible first | refine FlS (fun Kf hF => ?_) | refine FlN ?_ | refine NdS (fun Kg hG => ?_) | (refine hF _ _ ?_; clear hF; clear Kf) | (refine hG _ _ _ _ ?_; clear hG; clear Kg)) | ((with_reducible refine SqI ?_ (fun Kv hN hX hR => ?_)); (next => exact rfl)) | ((with_reducible refine JnI ?_ ?_); (next => exact rfl)) | ((with_reducible first | refine hN _ ?_ | refine hX _ _ ?_ | refine hR _ ?_); (try (clear hG; clear Kg)); clear hN hX hR; clear Kv) | ((conv => whnf); first | (with_reducible first | rfl | exact True.intro | intro _ | refine And.intro ?_ ?_) | ((with_reducible first | refine hN _ ?_ | refine hX _ _ ?_ | refine hR _ ?_); (try (clear hG; clear Kg)); clear hN hX hR; clear Kv) | (with_reducible first | refine BdS (fun Kv hN hX hR => ?_) | refine Stop.mk ?_ | refine Join.mk ⟨fun Kv hN hX hR => ?_, ?_⟩ | refine DrawJ.each ?_ | exact SubJ.self _) | with_reducible refine SubJ.of ?_ | (with_reducible first | refine FlS (fun Kf hF => ?_) | refine FlN ?_ | refine NdS (fun Kg hG => ?_) | (refine hF _ _ ?_; clear hF; clear Kf) | (refine hG _ _ _ _ ?_; clear hG; clear Kg))))); all_goals (conv => whnf); all_goals (repeat ((try (clear hG; clear Kg)); clear hN hX hR; clear Kv))
       all_goals rfl)
    | (with_reducible intro i hi
       (repeat' (first | ((with_reducible refine BdI ?_); (first | ((with_reducible refine SqI ?_ (fun Kv hN hX hR => ?_)); (next => exact rfl)) | ((with_reducible refine JnI ?_ ?_); (next => exact rfl)) | (conv => whnf))) | (with_reducible first | refine BdS (fun Kv hN hX hR => ?_) | refine Stop.mk ?_ | refine Join.mk ⟨fun Kv hN hX hR => ?_, ?_⟩ | refine DrawJ.each ?_ | exact SubJ.self _) | with_reducible refine SubJ.of ?_ | (with_reducible first | refine FlS (fun Kf hF => ?_) | refine FlN ?_ | refine NdS (fun Kg hG => ?_) | (refine hF _ _ ?_; clear hF; clear Kf) | (refine hG _ _ _ _ ?_; clear hG; clear Kg)) | ((with_reducible refine SqI ?_ (fun Kv hN hX hR => ?_)); (next => exact rfl)) | ((with_reducible refine JnI ?_ ?_); (next => exact rfl)) | ((with_reducible first | refine hN _ ?_ | refine hX _ _ ?_ | refine hR _ ?_); (try (clear hG; clear Kg)); clear hN hX hR; clear Kv) | ((conv => whnf); first | (with_reducible first | rfl | exact True.intro | intro _ | refine And.intro ?_ ?_) | ((with_reducible first | refine hN _ ?_ | refine hX _ _ ?_ | refine hR _ ?_); (try (clear hG; clear Kg)); clear hN hX hR; clear Kv) | (with_reducible first | refine BdS (fun Kv hN hX hR => ?_) | refine Stop.mk ?_ | refine Join.mk ⟨fun Kv hN hX hR => ?_, ?_⟩ | refine DrawJ.each ?_ | exact SubJ.self _) | with_reducible refine SubJ.of ?_ | (with_reducible first | refine FlS (fun Kf hF => ?_) | refine FlN ?_ | refine NdS (fun Kg hG => ?_) | (refine hF _ _ ?_; clear hF; clear Kf) | (refine hG _ _ _ _ ?_; clear hG; clear Kg))))); all_goals (conv => whnf); all_goals (repeat ((try (clear hG; clear Kg)); clear hN hX hR; clear Kv))
       all_goals (try simp only [Int.toNat_natCast, etaMsg] at *)
       all_goals first
         | exact Ob.mk ⟨by omega, of_decide_eq_true (by with_reducible assumption)⟩
         | (have h := of_decide_eq_true (show decide ((i : Int) < (xs.length : Nat)) = true by with_reducible assumption)
            have hm : (!mayB (xs.getD i default)) = true := by with_reducible assumption
            have : xs.all mayB = false := List.all_eq_false.2 ⟨xs.getD i default, getD_mem (d := default) (by omega), by rw [(show mayB (xs.getD i default) = false by simpa using hm)]; simp⟩
            exact (queueB_no this).symm)
         | (have h := of_decide_eq_true (show decide ((i : Int) < (xs.length : Nat)) = true by with_reducible assumption)
            have hm : (!mayB (xs.getD i default)) = false := by with_reducible assumption
            refine ⟨i + 1, ⟨by omega, all_take_succ (d := default) (by omega) hi.2 (by simpa using hm)⟩, by show xs.length - (i + 1) < xs.length - i; omega, ?_⟩
            (repeat' (first | ((with_reducible refine BdI ?_); (first | ((with_reducible refine SqI ?_ (fun Kv hN hX hR => ?_)); (next => exact rfl)) | ((with_reducible refine JnI ?_ ?_); (next => exact rfl)) | (conv => whnf))) | (with_reducible first | refine BdS (fun Kv hN hX hR => ?_) | refine Stop.mk ?_ | refine Join.mk ⟨fun Kv hN hX hR => ?_, ?_⟩ | refine DrawJ.each ?_ | exact SubJ.self _) | with_reducible refine SubJ.of ?_ | (with_reducible first | refine FlS (fun Kf hF => ?_) | refine FlN ?_ | refine NdS (fun Kg hG => ?_) | (refine hF _ _ ?_; clear hF; clear Kf) | (refine hG _ _ _ _ ?_; clear hG; clear Kg)) | ((with_reducible refine SqI ?_ (fun Kv hN hX hR => ?_)); (next => exact rfl)) | ((with_reducible refine JnI ?_ ?_); (next => exact rfl)) | ((with_reducible first | refine hN _ ?_ | refine hX _ _ ?_ | refine hR _ ?_); (try (clear hG; clear Kg)); clear hN hX hR; clear Kv) | ((conv => whnf); first | (with_reducible first | rfl | exact True.intro | intro _ | refine And.intro ?_ ?_) | ((with_reducible first | refine hN _ ?_ | refine hX _ _ ?_ | refine hR _ ?_); (try (clear hG; clear Kg)); clear hN hX hR; clear Kv) | (with_reducible first | refine BdS (fun Kv hN hX hR => ?_) | refine Stop.mk ?_ | refine Join.mk ⟨fun Kv hN hX hR => ?_, ?_⟩ | refine DrawJ.each ?_ | exact SubJ.self _) | with_reducible refine SubJ.of ?_ | (with_reducible first | refine FlS (fun Kf hF => ?_) | refine FlN ?_ | refine NdS (fun Kg hG => ?_) | (refine hF _ _ ?_; clear hF; clear Kf) | (refine hG _ _ _ _ ?_; clear hG; clear Kg))))); all_goals (conv => whnf); all_goals (repeat ((try (clear hG; clear Kg)); clear hN hX hR; clear Kv))
            all_goals first
              | exact wrapI (by omega) (by omega)
              | rfl)
         | (have h := of_decide_eq_false (show decide ((i : Int) < (xs.length : Nat)) = false by with_reducible assumption)
            have h2 := hi.2
            rw [List.take_of_length_le (by omega)] at h2
            have : xs.all mayB = true := List.all_eq_true.2 h2
            simp [queueB, this])
         | skip)
    | skip
end Go.Proofs.YtmhieddhmebfhaaGreat

/- Contracts: queues: copies. -/
namespace Go.Proofs.YtmhieddhmebfhaaGreat
open Go.RowKit
set_option maxRecDepth 20000

theorem set_self {l : List GMsg} {i : Nat} (hi : i < l.length) : l.set i (l.getD i default) = l := by
  apply List.ext_getElem (by simp)
  intro j h1 h2
  rw [List.getElem_set]
  split
  · rename_i h; subst h; simp [List.getD_eq_getElem?_getD, hi]
  · rfl
theorem loStep_self (i : Nat) : loStep i (i : Int) = i + 1 := by simp [loStep]
theorem k_qCopy : Known Tryz.prog tau 57 (S1 dMsgs fun l => .ok (.own 0) [.msgs l]) := by
  refine knownX1 hmix tau_ok (fn := Tryz.f57) (by kernel_rfl) [] (by kernel_rfl) _ _ fun xs hfit => ⟨rfl, _, ctx_tr (t_CloneMsgs 9000000) (ctx_cons k_CloneInts ctx_nil),
    [(3, invX Nat [4, 9, 10, 11, 12, 13, 14, 15, 16, 17, 18, 19, 20, 21, 22] [9000000] (fun i => i ≤ xs.length) (fun i st => withS [(9, .int .i64 i)] (withR [(9000000, .part i (.msgs xs))] st)) (fun i => xs.length - i))], ?_⟩
  have hlen : xs.length * 104 ≤ 140737488355328 := hfit.1.1
  clear hfit
  (repeat' (first | ((with_reducible refine BdI ?_); (first | ((with_reducible refine SqI ?_ (fun Kv hN hX hR => ?_)); (next => exact rfl)) | ((with_reducible refine JnI ?_ ?_); (next => exact rfl)) | (conv => whnf))) | (with_reducible first | refine BdS (fun Kv hN hX hR => ?_) | refine Stop.mk ?_ | refine Join.mk ⟨fun Kv hN hX hR => ?_, ?_⟩ | refine DrawJ.each ?_ | exact SubJ.self _) | with_reducible refine SubJ.of ?_ | (with_reducible first | refine FlS (fun Kf hF => ?_) | refine FlN ?_ | refine NdS (fun Kg hG => ?_) | (refine hF _ _ ?_; clear hF; clear Kf) | (refine hG _ _ _ _ ?_; clear hG; clear Kg)) | ((with_reducible refine SqI ?_ (fun Kv hN hX hR => ?_)); (next => exact rfl)) | ((with_reducible refine JnI ?_ ?_); (next => exact rfl)) | ((with_reducible first | refine hN _ ?_ | refine hX _ _ ?_ | refine hR _ ?_); (try (clear hG; clear Kg)); clear hN hX hR; clear Kv) | ((conv => whnf); first | (with_reducible first | rfl | exact True.intro | refine (fun (_ : (_ : Prop)) => ?_) | refine And.intro ?_ ?_) | ((with_reducible first | refine hN _ ?_ | refine hX _ _ ?_ | refine hR _ ?_); (try (clear hG; clear Kg)); clear hN hX hR; clear Kv) | (with_reducible first | refine BdS (fun Kv hN hX hR => ?_) | refine Stop.mk ?_ | refine Join.mk ⟨fun Kv hN hX hR => ?_, ?_⟩ | refine DrawJ.each ?_ | exact SubJ.self _) | with_reducible refine SubJ.of ?_ | (with_reducible first | refine FlS (fun Kf hF => ?_) | refine FlN ?_ | refine NdS (fun Kg hG => ?_) | (refine hF _ _ ?_; clear hF; clear Kf) | (refine hG _ _ _ _ ?_; clear hG; clear Kg))))); all_goals (conv => whnf); all_goals (repeat ((try (clear hG; clear Kg)); clear hN hX hR; clear Kv))
  all_goals first
    | (refine ⟨0, Nat.zero_le _, ?_⟩
       (repeat' (first | ((with_reducible refine BdI ?_); (first | ((with_reducible refine SqI ?_ (fun Kv hN hX hR => ?_)); (next => exact rfl)) | ((with_reducible refine JnI ?_ ?_); (next => exact rfl)) | (conv => whnf))) | (with_reducible first | refine BdS (fun Kv hN hX hR => ?_) | refine Stop.mk ?_ | refine Join.mk ⟨fun Kv hN hX hR => ?_, ?_⟩ | refine DrawJ.each ?_ | exact SubJ.self _) | with_reducible refine SubJ.of ?_ | (with_reducible first | refine FlS (fun Kf hF => ?_) | refine FlN ?_ | refine NdS (fun Kg hG => ?_) | (refine hF _ _ ?_; clear hF; clear Kf) | (refine hG _ _ _ _ ?_; clear hG; clear Kg)) | ((with_reducible refine SqI ?_ (fun Kv hN hX hR => ?_)); (next => exact rfl)) | ((with_reducible refine JnI ?_ ?_); (next => exact rfl)) | ((with_reducible first | refine hN _ ?_ | refine hX _ _ ?_ | refine hR _ ?_); (try (clear hG; clear Kg)); clear hN hX hR; clear Kv) | ((conv => whnf); first | (with_reducible first | rfl | exact True.intro | intro _ | refine And.intro ?_ ?_) | ((with_reducible first | refine hN _ ?_ | refine hX _ _ ?_ | refine hR _ ?_); (try (clear hG; clear Kg)); clear hN hX hR; clear Kv) | (with_reducible first | refine BdS (fun Kv hN hX hR => ?_) | refine Stop.mk ?_ | refine Join.mk ⟨fun Kv hN hX hR => ?_, ?_⟩ | refine DrawJ.each ?_ | exact SubJ.self _) | with_reducible refine SubJ.of ?_ | (with_reducible first | refine FlS (fun Kf hF => ?_) | refine FlN ?_ | refine NdS (fun Kg hG => ?_) | (refine hF _ _ ?_; clear hF; clear Kf) | (refine hG _ _ _ _ ?_; clear hG; clear Kg))))); all_goals (conv => whnf); all_goals (repeat ((try (clear hG; clear Kg)); clear hN hX hR; clear Kv))
       all_goals rfl)
    | (with_reducible intro i hi
       (repeat' (first | ((with_reducible refine BdI ?_); (first | ((with_reducible refine SqI ?_ (fun Kv hN hX hR => ?_)); (next => exact rfl)) | ((with_reducible refine JnI ?_ ?_); (next => exact rfl)) | (conv => whnf))) | (with_reducible first | refine BdS (fun Kv hN hX hR => ?_) | refine Stop.mk ?_ | refine Join.mk ⟨fun Kv hN hX hR => ?_, ?_⟩ | refine DrawJ.each ?_ | exact SubJ.self _) | with_reducible refine SubJ.of ?_ | (with_reducible first | refine FlS (fun Kf hF => ?_) | refine FlN ?_ | refine NdS (fun Kg hG => ?_) | (refine hF _ _ ?_; clear hF; clear Kf) | (refine hG _ _ _ _ ?_; clear hG; clear Kg)) | ((with_reducible refine SqI ?_ (fun Kv hN hX hR => ?_)); (next => exact rfl)) | ((with_reducible refine JnI ?_ ?_); (next => exact rfl)) | ((with_reducible first | refine hN _ ?_ | refine hX _ _ ?_ | refine hR _ ?_); (try (clear hG; clear Kg)); clear hN hX hR; clear Kv) | ((conv => whnf); first | (with_reducible first | rfl | exact True.intro | intro _ | refine And.intro ?_ ?_) | ((with_reducible first | refine hN _ ?_ | refine hX _ _ ?_ | refine hR _ ?_); (try (clear hG; clear Kg)); clear hN hX hR; clear Kv) | (with_reducible first | refine BdS (fun Kv hN hX hR => ?_) | refine Stop.mk ?_ | refine Join.mk ⟨fun Kv hN hX hR => ?_, ?_⟩ | refine DrawJ.each ?_ | exact SubJ.self _) | with_reducible refine SubJ.of ?_ | (with_reducible first | refine FlS (fun Kf hF => ?_) | refine FlN ?_ | refine NdS (fun Kg hG => ?_) | (refine hF _ _ ?_; clear hF; clear Kf) | (refine hG _ _ _ _ ?_; clear hG; clear Kg))))); all_goals (conv => whnf); all_goals (repeat ((try (clear hG; clear Kg)); clear hN hX hR; clear Kv))
       all_goals (try simp only [Int.toNat_natCast, etaMsg] at *)
       all_goals first
         | exact Ob.mk ⟨by omega, of_decide_eq_true (by with_reducible assumption)⟩
         | (have h := of_decide_eq_true (show decide ((i : Int) < (xs.length : Nat)) = true by with_reducible assumption)
            have h2 : i < xs.length := by omega
            refine ⟨i + 1, h2, by show xs.length - (i + 1) < xs.length - i; omega, ?_⟩
            have e1 := set_self h2
            have e2 := loStep_self i
            (repeat' (first | ((with_reducible refine BdI ?_); (first | ((with_reducible refine SqI ?_ (fun Kv hN hX hR => ?_)); (next => exact rfl)) | ((with_reducible refine JnI ?_ ?_); (next => exact rfl)) | (conv => whnf))) | (with_reducible first | refine BdS (fun Kv hN hX hR => ?_) | refine Stop.mk ?_ | refine Join.mk ⟨fun Kv hN hX hR => ?_, ?_⟩ | refine DrawJ.each ?_ | exact SubJ.self _) | with_reducible refine SubJ.of ?_ | (with_reducible first | refine FlS (fun Kf hF => ?_) | refine FlN ?_ | refine NdS (fun Kg hG => ?_) | (refine hF _ _ ?_; clear hF; clear Kf) | (refine hG _ _ _ _ ?_; clear hG; clear Kg)) | ((with_reducible refine SqI ?_ (fun Kv hN hX hR => ?_)); (next => exact rfl)) | ((with_reducible refine JnI ?_ ?_); (next => exact rfl)) | ((with_reducible first | refine hN _ ?_ | refine hX _ _ ?_ | refine hR _ ?_); (try (clear hG; clear Kg)); clear hN hX hR; clear Kv) | ((conv => whnf); first | (with_reducible first | rfl | exact True.intro | intro _ | refine And.intro ?_ ?_) | ((with_reducible first | refine hN _ ?_ | refine hX _ _ ?_ | refine hR _ ?_); (try (clear hG; clear Kg)); clear hN hX hR; clear Kv) | (with_reducible first | refine BdS (fun Kv hN hX hR => ?_) | refine Stop.mk ?_ | refine Join.mk ⟨fun Kv hN hX hR => ?_, ?_⟩ | refine DrawJ.each ?_ | exact SubJ.self _) | with_reducible refine SubJ.of ?_ | (with_reducible first | refine FlS (fun Kf hF => ?_) | refine FlN ?_ | refine NdS (fun Kg hG => ?_) | (refine hF _ _ ?_; clear hF; clear Kf) | (refine hG _ _ _ _ ?_; clear hG; clear Kg))))); all_goals (conv => whnf); all_goals (repeat ((try (clear hG; clear Kg)); clear hN hX hR; clear Kv))
            all_goals first
              | exact wrapI (by omega) (by omega)
              | (rw [e2, e1])
              | rfl)
         | (have h := of_decide_eq_false (show decide ((i : Int) < (xs.length : Nat)) = false by with_reducible assumption)
            show xs.length ≤ i
            omega)
         | rfl
         | skip)
    | skip
end Go.Proofs.YtmhieddhmebfhaaGreat

/- slices.Clone at one type: its walk. -/
namespace Go.Proofs.YtmhieddhmebfhaaGreat
open Go.RowKit
set_option maxHeartbeats 1000000 in
theorem w_CloneNodes : CloneW Tryz.prog 95 29 6 112 := by
  obtain ⟨hk10, het, ti, hti, hsz, hby, _⟩ := tau_ok.rk 29 8 (by kernel_rfl)
  obtain ⟨x0, z, g1, g2, g3, g4, g5, g6⟩ := (tau_ok.ti _ ti hti).info
  have g2 : x0.size = 6 := g2.trans hsz
  have g3 : x0.bytes = 112 := g3.trans hby
  have g5 : z.cells.size = 6 := g5.trans hsz
  clear hk10 het g6
  have t22 : Tryz.prog.underlying 44 = some (.slice 29) := Tryz.underlying44
  have q22 : ∀ (w : World) (a : Option Addr) (n c n' c' : Nat), (binOp .eql 44 (.slice a n c) (.slice none n' c')).run Tryz.prog w = .ok (.bool a.isNone) w := fun w a n c n' c' => Lib.run_eql_slice_nil w _ _ a n c n' c' t22
  refine ⟨fnOk_enters (fn := Tryz.f95) (D := []) (by kernel_rfl) (by kernel_rfl), fun n c w => ?_, fun ad n c news w hl hn hbig hc h1 => ?_⟩
  · go_enter Tryz.func95, Tryz.ntmps95
    go_wp2
    go_ret
    exact ⟨rfl, rfl⟩
  · have A : Aside (∀ j u, news[j]? = some u → w.cell? (ad.add j) = some u) := hc
    clear hc
    go_enter Tryz.func95, Tryz.ntmps95
    go_wp2_with (at_builtin; refine wpList_append_own _ rfl _ _ 44 rfl w.heap.size 29 x0 z 6 112 t22 g1 g4 g2 g3 g5 (by decide) _ _ _ rfl (World.ownsRow_made w #[] 0 (Nat.le_refl _) (Nat.zero_le _) (by simp)) ad n c news rfl ?qc1 ?qc2 ?qc3 ?qc4 ?qc5 ?qc6 ?_)
    case qc1 => exact hl
    case qc2 =>
      intro j u hj
      exact Lib.cell?_alloc_some _ (A.out j u hj)
    case qc3 => exact h1
    case qc4 => rw [Nat.zero_add]; exact hn
    case qc5 => rw [Nat.zero_add]; exact hbig
    case qc6 => simp
    intro v' w1 hown hgrow hnil
    go_wp2
    go_ret
    refine ⟨v', rfl, by simpa using hown, ?_⟩
    exact ((Below.refl _ w).alloc (Nat.le_refl _) _).grown hgrow (by simp) (by intro k hk; simp [Value.ownBlock] at hk; omega)
theorem t_CloneNodes (q : Nat) : TrKnown Tryz.prog tau 95 (cloneT 8 q) := clone_tr q w_CloneNodes
end Go.Proofs.YtmhieddhmebfhaaGreat

/- slices.Clone at one type: its walk. -/
namespace Go.Proofs.YtmhieddhmebfhaaGreat
open Go.RowKit
set_option maxHeartbeats 1000000 in
theorem w_CloneCuts : CloneW Tryz.prog 96 116 2 16 := by
  obtain ⟨hk10, het, ti, hti, hsz, hby, _⟩ := tau_ok.rk 116 6 (by kernel_rfl)
  obtain ⟨x0, z, g1, g2, g3, g4, g5, g6⟩ := (tau_ok.ti _ ti hti).info
  have g2 : x0.size = 2 := g2.trans hsz
  have g3 : x0.bytes = 16 := g3.trans hby
  have g5 : z.cells.size = 2 := g5.trans hsz
  clear hk10 het g6
  have t22 : Tryz.prog.underlying 45 = some (.slice 116) := Tryz.underlying45
  have q22 : ∀ (w : World) (a : Option Addr) (n c n' c' : Nat), (binOp .eql 45 (.slice a n c) (.slice none n' c')).run Tryz.prog w = .ok (.bool a.isNone) w := fun w a n c n' c' => Lib.run_eql_slice_nil w _ _ a n c n' c' t22
  refine ⟨fnOk_enters (fn := Tryz.f96) (D := []) (by kernel_rfl) (by kernel_rfl), fun n c w => ?_, fun ad n c news w hl hn hbig hc h1 => ?_⟩
  · go_enter Tryz.func96, Tryz.ntmps96
    go_wp2
    go_ret
    exact ⟨rfl, rfl⟩
  · have A : Aside (∀ j u, news[j]? = some u → w.cell? (ad.add j) = some u) := hc
    clear hc
    go_enter Tryz.func96, Tryz.ntmps96
    go_wp2_with (at_builtin; refine wpList_append_own _ rfl _ _ 45 rfl w.heap.size 116 x0 z 2 16 t22 g1 g4 g2 g3 g5 (by decide) _ _ _ rfl (World.ownsRow_made w #[] 0 (Nat.le_refl _) (Nat.zero_le _) (by simp)) ad n c news rfl ?qc1 ?qc2 ?qc3 ?qc4 ?qc5 ?qc6 ?_)
    case qc1 => exact hl
    case qc2 =>
      intro j u hj
      exact Lib.cell?_alloc_some _ (A.out j u hj)
    case qc3 => exact h1
    case qc4 => rw [Nat.zero_add]; exact hn
    case qc5 => rw [Nat.zero_add]; exact hbig
    case qc6 => simp
    intro v' w1 hown hgrow hnil
    go_wp2
    go_ret
    refine ⟨v', rfl, by simpa using hown, ?_⟩
    exact ((Below.refl _ w).alloc (Nat.le_refl _) _).grown hgrow (by simp) (by intro k hk; simp [Value.ownBlock] at hk; omega)
theorem k_CloneCuts : Known Tryz.prog tau 96 (S1 dCuts fun l => .ok (.own 0) [.cuts l]) := clone_known dCuts .cuts (fun _ => rfl) (fun _ => rfl) (kd := 6) (fun _ => rfl) w_CloneCuts
end Go.Proofs.YtmhieddhmebfhaaGreat

/- Contracts: worlds: who is named; may they be; their copies. -/
namespace Go.Proofs.YtmhieddhmebfhaaGreat
open Go.RowKit
set_option maxRecDepth 20000
def namedN (n : GNode) : List Int := namesP n.view.peers ++ n.view.passive
def namedC (c : GCut) : List Int := [c.a, c.b]
def namedM (m : GMsg) : List Int := [m.src, m.dst] ++ m.ids
def namedW (w : GWorld) : List Int := (w.nodes.flatMap namedN ++ w.cuts.flatMap namedC) ++ w.packets.flatMap namedM
theorem fm_succ {α : Type} [Inhabited α] {f : α → List Int} {l : List α} {i : Nat} (h : i < l.length) : (l.take (i + 1)).flatMap f = (l.take i).flatMap f ++ f (l.getD i default) := by
  rw [List.take_succ_eq_append_getElem h, List.flatMap_append]
  simp [List.getD_eq_getElem?_getD, h]
theorem flat_max {α : Type} {f : α → List Int} {c : Nat} : ∀ {l : List α}, (∀ x ∈ l, (f x).length ≤ c) → (l.flatMap f).length ≤ c * l.length
  | [], _ => by simp
  | x :: l, h => by
    have h1 := h x List.mem_cons_self
    have h2 := flat_max fun y hy => h y (List.mem_cons_of_mem x hy)
    rw [List.flatMap_cons, List.length_append, List.length_cons, Nat.mul_add]
    omega
theorem flat_take {α : Type} {f : α → List Int} {c : Nat} {l : List α} (h : ∀ x ∈ l, (f x).length ≤ c) (i : Nat) : ((l.take i).flatMap f).length ≤ c * l.length := by
  refine Nat.le_trans (flat_max fun x hx => h x (List.mem_of_mem_take hx)) (Nat.mul_le_mul_left _ ?_)
  rw [List.length_take]
  omega
theorem nodeB_names {n : GNode} (h : nodeB n = true) : n.view.peers.length ≤ 16 ∧ n.view.passive.length ≤ 16 := by
  unfold nodeB at h
  simp only [Bool.and_eq_true] at h
  have := (viewB_iff.1 h.1).2.2.1
  omega
theorem mayB_ids {m : GMsg} (h : mayB m = true) : m.ids.length ≤ 16 := by
  unfold mayB bodyB noneB at h
  simp only [Bool.and_eq_true] at h
  have h := h.2.2.2
  split at h
  · simp only [Bool.and_eq_true, decide_eq_true_eq] at h; omega
  · split at h
    · simp only [Bool.and_eq_true, decide_eq_true_eq] at h; omega
    · split at h
      · simp only [Bool.and_eq_true, decide_eq_true_eq] at h; omega
      · split at h
        · simp only [Bool.and_eq_true, decide_eq_true_eq] at h; omega
        · simp at h
theorem queueB_iff2 {l : List GMsg} : queueB l = true ↔ l.length ≤ 512 ∧ ∀ m ∈ l, mayB m = true := by
  simp only [queueB, Bool.and_eq_true, decide_eq_true_eq, List.all_eq_true]
  exact ⟨fun h => ⟨by omega, h.2⟩, fun h => ⟨by omega, h.2⟩⟩
/-- Its rows are short. -/
def shortW (w : GWorld) : Prop := nodesB w.nodes = true ∧ cutsB w.cuts = true ∧ queueB w.packets = true
set_option maxHeartbeats 8000000 in
theorem k_named : Known Tryz.prog tau 66 (S1 dPWorld fun w => .ob (shortW w) (.own 0) [.ints (namedW w)]) := by
  refine known1 hmix tau_ok (ctx_cons k_Ids ctx_nil) (fn := Tryz.f66) (by kernel_rfl) [] (by kernel_rfl) _ _ fun w hfit hs => ⟨rfl,
    [(3, invA Nat [(3, 26, 0)] [3, 4, 14, 15, 16, 17, 18, 19, 20, 21, 22, 23, 24, 25, 26, 27, 28, 29, 30, 31, 32, 33, 34, 35, 36, 37, 38] [] (fun i => i ≤ w.nodes.length) (fun i => fun st => withS [(14, .int .i64 i), (3, .own 26)] (withR [(26, .own (.ints ((w.nodes.take i).flatMap namedN)))] st)) (fun i => w.nodes.length - i)),
     (9, invX Nat [3, 6, 44, 45, 46, 47, 48, 49, 50, 51, 52, 53, 54, 55] [26] (fun i => i ≤ w.cuts.length) (fun i => fun st => withS [(44, .int .i64 i), (3, .own 26)] (withR [(26, .own (.ints (w.nodes.flatMap namedN ++ (w.cuts.take i).flatMap namedC)))] st)) (fun i => w.cuts.length - i)),
     (14, invX Nat [3, 8, 61, 62, 63, 64, 65, 66, 67, 68, 69, 70, 71, 72, 73, 74, 75, 76] [26] (fun i => i ≤ w.packets.length) (fun i => fun st => withS [(61, .int .i64 i), (3, .own 26)] (withR [(26, .own (.ints ((w.nodes.flatMap namedN ++ w.cuts.flatMap namedC) ++ (w.packets.take i).flatMap namedM)))] st)) (fun i => w.packets.length - i))], ?_⟩
  clear hfit
  obtain ⟨s1, s2, s3⟩ := hs
  obtain ⟨n1, n2, _, n4⟩ := nodesB_iff.1 s1
  have c1 := (cutsB_iff.1 s2).1
  obtain ⟨q1, q2⟩ := queueB_iff2.1 s3
  have bN : ∀ x ∈ w.nodes, (namedN x).length ≤ 32 := fun x hx => by
    have := nodeB_names (n4 x hx)
    unfold namedN
    rw [List.length_append, namesP_len]
    omega
  have bC : ∀ x ∈ w.cuts, (namedC x).length ≤ 2 := fun x _ => Nat.le_refl _
  have bM : ∀ x ∈ w.packets, (namedM x).length ≤ 18 := fun x hx => by
    have := mayB_ids (q2 x hx)
    show ([x.src, x.dst] ++ x.ids).length ≤ 18
    rw [List.length_append]
    simp
    omega
  have mN := flat_take bN
  have mC := flat_take bC
  have mM := flat_take bM
  have mN2 := flat_max bN
  have mC2 := flat_max bC
  (repeat' (first | ((with_reducible refine BdI ?_); (first | ((with_reducible refine SqI ?_ (fun Kv hN hX hR => ?_)); (next => exact rfl)) | ((with_reducible refine JnI ?_ ?_); (next => exact rfl)) | (conv => whnf))) | (with_reducible first | refine BdS (fun Kv hN hX hR => ?_) | refine Stop.mk ?_ | refine Join.mk ⟨fun Kv hN hX hR => ?_, ?_⟩ | refine DrawJ.each ?_ | exact SubJ.self _) | with_reducible refine SubJ.of ?_ | (with_reducible first | refine FlS (fun Kf hF => ?_) | refine FlN ?_ | refine NdS (fun Kg hG => ?_) | (refine hF _ _ ?_; clear hF; clear Kf) | (refine hG _ _ _ _ ?_; clear hG; clear Kg)) | ((with_reducible refine SqI ?_ (fun Kv hN hX hR => ?_)); (next => exact rfl)) | ((with_reducible refine JnI ?_ ?_); (next => exact rfl)) | ((with_reducible first | refine hN _ ?_ | refine hX _ _ ?_ | refine hR _ ?_); (try (clear hG; clear Kg)); clear hN hX hR; clear Kv) | ((conv => whnf); first | (with_reducible first | rfl | exact True.intro | refine (fun (_ : (_ : Prop)) => ?_) | refine And.intro ?_ ?_) | ((with_reducible first | refine hN _ ?_ | refine hX _ _ ?_ | refine hR _ ?_); (try (clear hG; clear Kg)); clear hN hX hR; clear Kv) | (with_reducible first | refine BdS (fun Kv hN hX hR => ?_) | refine Stop.mk ?_ | refine Join.mk ⟨fun Kv hN hX hR => ?_, ?_⟩ | refine DrawJ.each ?_ | exact SubJ.self _) | with_reducible refine SubJ.of ?_ | (with_reducible first | refine FlS (fun Kf hF => ?_) | refine FlN ?_ | refine NdS (fun Kg hG => ?_) | (refine hF _ _ ?_; clear hF; clear Kf) | (refine hG _ _ _ _ ?_; clear hG; clear Kg))))); all_goals (conv => whnf); all_goals (repeat ((try (clear hG; clear Kg)); clear hN hX hR; clear Kv))
  all_goals first
    | (refine ⟨0, Nat.zero_le _, ?_⟩
       (repeat' (first | ((with_reducible refine BdI ?_); (first | ((with_reducible refine SqI ?_ (fun Kv hN hX hR => ?_)); (next => exact rfl)) | ((with_reducible refine JnI ?_ ?_); (next => exact rfl)) | (conv => whnf))) | (with_reducible first | refine BdS (fun Kv hN hX hR => ?_) | refine Stop.mk ?_ | refine Join.mk ⟨fun Kv hN hX hR => ?_, ?_⟩ | refine DrawJ.each ?_ | exact SubJ.self _) | with_reducible refine SubJ.of ?_ | (with_reducible first | refine FlS (fun Kf hF => ?_) | refine FlN ?_ | refine NdS (fun Kg hG => ?_) | (refine hF _ _ ?_; clear hF; clear Kf) | (refine hG _ _ _ _ ?_; clear hG; clear Kg)) | ((with_reducible refine SqI ?_ (fun Kv hN hX hR => ?_)); (next => exact rfl)) | ((with_reducible refine JnI ?_ ?_); (next => exact rfl)) | ((with_reducible first | refine hN _ ?_ | refine hX _ _ ?_ | refine hR _ ?_); (try (clear hG; clear Kg)); clear hN hX hR; clear Kv) | ((conv => whnf); first | (with_reducible first | rfl | exact True.intro | intro _ | refine And.intro ?_ ?_) | ((with_reducible first | refine hN _ ?_ | refine hX _ _ ?_ | refine hR _ ?_); (try (clear hG; clear Kg)); clear hN hX hR; clear Kv) | (with_reducible first | refine BdS (fun Kv hN hX hR => ?_) | refine Stop.mk ?_ | refine Join.mk ⟨fun Kv hN hX hR => ?_, ?_⟩ | refine DrawJ.each ?_ | exact SubJ.self _) | with_reducible refine SubJ.of ?_ | (with_reducible first | refine FlS (fun Kf hF => ?_) | refine FlN ?_ | refine NdS (fun Kg hG => ?_) | (refine hF _ _ ?_; clear hF; clear Kf) | (refine hG _ _ _ _ ?_; clear hG; clear Kg))))); all_goals (conv => whnf); all_goals (repeat ((try (clear hG; clear Kg)); clear hN hX hR; clear Kv))
       all_goals rfl)
    | (with_reducible intro i hi
       have hi : i ≤ w.nodes.length := hi
       have m1 := mN i
       (repeat' (first | ((with_reducible refine BdI ?_); (first | ((with_reducible refine SqI ?_ (fun Kv hN hX hR => ?_)); (next => exact rfl)) | ((with_reducible refine JnI ?_ ?_); (next => exact rfl)) | (conv => whnf))) | (with_reducible first | refine BdS (fun Kv hN hX hR => ?_) | refine Stop.mk ?_ | refine Join.mk ⟨fun Kv hN hX hR => ?_, ?_⟩ | refine DrawJ.each ?_ | exact SubJ.self _) | with_reducible refine SubJ.of ?_ | (with_reducible first | refine FlS (fun Kf hF => ?_) | refine FlN ?_ | refine NdS (fun Kg hG => ?_) | (refine hF _ _ ?_; clear hF; clear Kf) | (refine hG _ _ _ _ ?_; clear hG; clear Kg)) | ((with_reducible refine SqI ?_ (fun Kv hN hX hR => ?_)); (next => exact rfl)) | ((with_reducible refine JnI ?_ ?_); (next => exact rfl)) | ((with_reducible first | refine hN _ ?_ | refine hX _ _ ?_ | refine hR _ ?_); (try (clear hG; clear Kg)); clear hN hX hR; clear Kv) | ((conv => whnf); first | (with_reducible first | rfl | exact True.intro | refine (fun (_ : (_ : Prop)) => ?_) | refine And.intro ?_ ?_) | ((with_reducible first | refine hN _ ?_ | refine hX _ _ ?_ | refine hR _ ?_); (try (clear hG; clear Kg)); clear hN hX hR; clear Kv) | (with_reducible first | refine BdS (fun Kv hN hX hR => ?_) | refine Stop.mk ?_ | refine Join.mk ⟨fun Kv hN hX hR => ?_, ?_⟩ | refine DrawJ.each ?_ | exact SubJ.self _) | with_reducible refine SubJ.of ?_ | (with_reducible first | refine FlS (fun Kf hF => ?_) | refine FlN ?_ | refine NdS (fun Kg hG => ?_) | (refine hF _ _ ?_; clear hF; clear Kf) | (refine hG _ _ _ _ ?_; clear hG; clear Kg))))); all_goals (conv => whnf); all_goals (repeat ((try (clear hG; clear Kg)); clear hN hX hR; clear Kv))
       all_goals (try simp only [Int.toNat_natCast] at *)
       all_goals first
         | exact Ob.mk ⟨by omega, of_decide_eq_true (by with_reducible assumption)⟩
         | (have h := of_decide_eq_true (show decide ((i : Int) < (w.nodes.length : Nat)) = true by with_reducible assumption)
            have hx := nodeB_names (n4 _ (getD_mem (d := default) (show i < w.nodes.length by omega)))
            first
              | (refine Ob.mk ?_
                 simp only [Rw.len, Rw.bts, Rw.kd, kdBytes, List.length_append, namesP_len]
                 omega)
              | (have e1 := fm_succ (f := namedN) (show i < w.nodes.length by omega)
                 refine ⟨i + 1, by omega, by omega, ?_⟩
                 (repeat' (first | ((with_reducible refine BdI ?_); (first | ((with_reducible refine SqI ?_ (fun Kv hN hX hR => ?_)); (next => exact rfl)) | ((with_reducible refine JnI ?_ ?_); (next => exact rfl)) | (conv => whnf))) | (with_reducible first | refine BdS (fun Kv hN hX hR => ?_) | refine Stop.mk ?_ | refine Join.mk ⟨fun Kv hN hX hR => ?_, ?_⟩ | refine DrawJ.each ?_ | exact SubJ.self _) | with_reducible refine SubJ.of ?_ | (with_reducible first | refine FlS (fun Kf hF => ?_) | refine FlN ?_ | refine NdS (fun Kg hG => ?_) | (refine hF _ _ ?_; clear hF; clear Kf) | (refine hG _ _ _ _ ?_; clear hG; clear Kg)) | ((with_reducible refine SqI ?_ (fun Kv hN hX hR => ?_)); (next => exact rfl)) | ((with_reducible refine JnI ?_ ?_); (next => exact rfl)) | ((with_reducible first | refine hN _ ?_ | refine hX _ _ ?_ | refine hR _ ?_); (try (clear hG; clear Kg)); clear hN hX hR; clear Kv) | ((conv => whnf); first | (with_reducible first | rfl | exact True.intro | intro _ | refine And.intro ?_ ?_) | ((with_reducible first | refine hN _ ?_ | refine hX _ _ ?_ | refine hR _ ?_); (try (clear hG; clear Kg)); clear hN hX hR; clear Kv) | (with_reducible first | refine BdS (fun Kv hN hX hR => ?_) | refine Stop.mk ?_ | refine Join.mk ⟨fun Kv hN hX hR => ?_, ?_⟩ | refine DrawJ.each ?_ | exact SubJ.self _) | with_reducible refine SubJ.of ?_ | (with_reducible first | refine FlS (fun Kf hF => ?_) | refine FlN ?_ | refine NdS (fun Kg hG => ?_) | (refine hF _ _ ?_; clear hF; clear Kf) | (refine hG _ _ _ _ ?_; clear hG; clear Kg))))); all_goals (conv => whnf); all_goals (repeat ((try (clear hG; clear Kg)); clear hN hX hR; clear Kv))
                 all_goals first
                   | exact wrapI (by omega) (by omega)
                   | (refine congrArg Rw.ints (Eq.trans ?_ e1.symm)
                      unfold namedN
                      rw [List.append_assoc])
                   | rfl
                   | trace_state))
         | (have h := of_decide_eq_false (show decide ((i : Int) < (w.nodes.length : Nat)) = false by with_reducible assumption)
            have hT : w.nodes.take i = w.nodes := List.take_of_length_le (by omega)
            rw [hT]
            first
              | (refine ⟨0, Nat.zero_le _, ?_⟩
                 (repeat' (first | ((with_reducible refine BdI ?_); (first | ((with_reducible refine SqI ?_ (fun Kv hN hX hR => ?_)); (next => exact rfl)) | ((with_reducible refine JnI ?_ ?_); (next => exact rfl)) | (conv => whnf))) | (with_reducible first | refine BdS (fun Kv hN hX hR => ?_) | refine Stop.mk ?_ | refine Join.mk ⟨fun Kv hN hX hR => ?_, ?_⟩ | refine DrawJ.each ?_ | exact SubJ.self _) | with_reducible refine SubJ.of ?_ | (with_reducible first | refine FlS (fun Kf hF => ?_) | refine FlN ?_ | refine NdS (fun Kg hG => ?_) | (refine hF _ _ ?_; clear hF; clear Kf) | (refine hG _ _ _ _ ?_; clear hG; clear Kg)) | ((with_reducible refine SqI ?_ (fun Kv hN hX hR => ?_)); (next => exact rfl)) | ((with_reducible refine JnI ?_ ?_); (next => exact rfl)) | ((with_reducible first | refine hN _ ?_ | refine hX _ _ ?_ | refine hR _ ?_); (try (clear hG; clear Kg)); clear hN hX hR; clear Kv) | ((conv => whnf); first | (with_reducible first | rfl | exact True.intro | intro _ | refine And.intro ?_ ?_) | ((with_reducible first | refine hN _ ?_ | refine hX _ _ ?_ | refine hR _ ?_); (try (clear hG; clear Kg)); clear hN hX hR; clear Kv) | (with_reducible first | refine BdS (fun Kv hN hX hR => ?_) | refine Stop.mk ?_ | refine Join.mk ⟨fun Kv hN hX hR => ?_, ?_⟩ | refine DrawJ.each ?_ | exact SubJ.self _) | with_reducible refine SubJ.of ?_ | (with_reducible first | refine FlS (fun Kf hF => ?_) | refine FlN ?_ | refine NdS (fun Kg hG => ?_) | (refine hF _ _ ?_; clear hF; clear Kf) | (refine hG _ _ _ _ ?_; clear hG; clear Kg))))); all_goals (conv => whnf); all_goals (repeat ((try (clear hG; clear Kg)); clear hN hX hR; clear Kv))
                 all_goals first
                   | (refine congrArg Rw.ints ?_
                      simp
                      done)
                   | rfl
                   | trace_state)
              | (with_reducible intro j hj
                 have hj : j ≤ w.cuts.length := hj
                 have m2 := mC j
                 (repeat' (first | ((with_reducible refine BdI ?_); (first | ((with_reducible refine SqI ?_ (fun Kv hN hX hR => ?_)); (next => exact rfl)) | ((with_reducible refine JnI ?_ ?_); (next => exact rfl)) | (conv => whnf))) | (with_reducible first | refine BdS (fun Kv hN hX hR => ?_) | refine Stop.mk ?_ | refine Join.mk ⟨fun Kv hN hX hR => ?_, ?_⟩ | refine DrawJ.each ?_ | exact SubJ.self _) | with_reducible refine SubJ.of ?_ | (with_reducible first | refine FlS (fun Kf hF => ?_) | refine FlN ?_ | refine NdS (fun Kg hG => ?_) | (refine hF _ _ ?_; clear hF; clear Kf) | (refine hG _ _ _ _ ?_; clear hG; clear Kg)) | ((with_reducible refine SqI ?_ (fun Kv hN hX hR => ?_)); (next => exact rfl)) | ((with_reducible refine JnI ?_ ?_); (next => exact rfl)) | ((with_reducible first | refine hN _ ?_ | refine hX _ _ ?_ | refine hR _ ?_); (try (clear hG; clear Kg)); clear hN hX hR; clear Kv) | ((conv => whnf); first | (with_reducible first | rfl | exact True.intro | refine (fun (_ : (_ : Prop)) => ?_) | refine And.intro ?_ ?_) | ((with_reducible first | refine hN _ ?_ | refine hX _ _ ?_ | refine hR _ ?_); (try (clear hG; clear Kg)); clear hN hX hR; clear Kv) | (with_reducible first | refine BdS (fun Kv hN hX hR => ?_) | refine Stop.mk ?_ | refine Join.mk ⟨fun Kv hN hX hR => ?_, ?_⟩ | refine DrawJ.each ?_ | exact SubJ.self _) | with_reducible refine SubJ.of ?_ | (with_reducible first | refine FlS (fun Kf hF => ?_) | refine FlN ?_ | refine NdS (fun Kg hG => ?_) | (refine hF _ _ ?_; clear hF; clear Kf) | (refine hG _ _ _ _ ?_; clear hG; clear Kg))))); all_goals (conv => whnf); all_goals (repeat ((try (clear hG; clear Kg)); clear hN hX hR; clear Kv))
                 all_goals (try simp only [Int.toNat_natCast] at *)
                 all_goals first
                   | exact Ob.mk ⟨by omega, of_decide_eq_true (by with_reducible assumption)⟩
                   | (have h := of_decide_eq_true (show decide ((j : Int) < (w.cuts.length : Nat)) = true by with_reducible assumption)
                      first
                        | (refine Ob.mk ?_
                           simp only [Rw.len, Rw.bts, Rw.kd, kdBytes, List.length_append, List.length_cons, List.length_nil]
                           omega)
                        | (have e1 := fm_succ (f := namedC) (show j < w.cuts.length by omega)
                           refine ⟨j + 1, by omega, by omega, ?_⟩
                           (repeat' (first | ((with_reducible refine BdI ?_); (first | ((with_reducible refine SqI ?_ (fun Kv hN hX hR => ?_)); (next => exact rfl)) | ((with_reducible refine JnI ?_ ?_); (next => exact rfl)) | (conv => whnf))) | (with_reducible first | refine BdS (fun Kv hN hX hR => ?_) | refine Stop.mk ?_ | refine Join.mk ⟨fun Kv hN hX hR => ?_, ?_⟩ | refine DrawJ.each ?_ | exact SubJ.self _) | with_reducible refine SubJ.of ?_ | (with_reducible first | refine FlS (fun Kf hF => ?_) | refine FlN ?_ | refine NdS (fun Kg hG => ?_) | (refine hF _ _ ?_; clear hF; clear Kf) | (refine hG _ _ _ _ ?_; clear hG; clear Kg)) | ((with_reducible refine SqI ?_ (fun Kv hN hX hR => ?_)); (next => exact rfl)) | ((with_reducible refine JnI ?_ ?_); (next => exact rfl)) | ((with_reducible first | refine hN _ ?_ | refine hX _ _ ?_ | refine hR _ ?_); (try (clear hG; clear Kg)); clear hN hX hR; clear Kv) | ((conv => whnf); first | (with_reducible first | rfl | exact True.intro | intro _ | refine And.intro ?_ ?_) | ((with_reducible first | refine hN _ ?_ | refine hX _ _ ?_ | refine hR _ ?_); (try (clear hG; clear Kg)); clear hN hX hR; clear Kv) | (with_reducible first | refine BdS (fun Kv hN hX hR => ?_) | refine Stop.mk ?_ | refine Join.mk ⟨fun Kv hN hX hR => ?_, ?_⟩ | refine DrawJ.each ?_ | exact SubJ.self _) | with_reducible refine SubJ.of ?_ | (with_reducible first | refine FlS (fun Kf hF => ?_) | refine FlN ?_ | refine NdS (fun Kg hG => ?_) | (refine hF _ _ ?_; clear hF; clear Kf) | (refine hG _ _ _ _ ?_; clear hG; clear Kg))))); all_goals (conv => whnf); all_goals (repeat ((try (clear hG; clear Kg)); clear hN hX hR; clear Kv))
                           all_goals first
                             | exact wrapI (by omega) (by omega)
                             | (refine congrArg Rw.ints ?_
                                rw [e1, List.append_assoc]
                                rfl)
                             | rfl
                             | trace_state))
                   | (have h := of_decide_eq_false (show decide ((j : Int) < (w.cuts.length : Nat)) = false by with_reducible assumption)
                      have hT : w.cuts.take j = w.cuts := List.take_of_length_le (by omega)
                      rw [hT]
                      first
                        | (refine ⟨0, Nat.zero_le _, ?_⟩
                           (repeat' (first | ((with_reducible refine BdI ?_); (first | ((with_reducible refine SqI ?_ (fun Kv hN hX hR => ?_)); (next => exact rfl)) | ((with_reducible refine JnI ?_ ?_); (next => exact rfl)) | (conv => whnf))) | (with_reducible first | refine BdS (fun Kv hN hX hR => ?_) | refine Stop.mk ?_ | refine Join.mk ⟨fun Kv hN hX hR => ?_, ?_⟩ | refine DrawJ.each ?_ | exact SubJ.self _) | with_reducible refine SubJ.of ?_ | (with_reducible first | refine FlS (fun Kf hF => ?_) | refine FlN ?_ | refine NdS (fun Kg hG => ?_) | (refine hF _ _ ?_; clear hF; clear Kf) | (refine hG _ _ _ _ ?_; clear hG; clear Kg)) | ((with_reducible refine SqI ?_ (fun Kv hN hX hR => ?_)); (next => exact rfl)) | ((with_reducible refine JnI ?_ ?_); (next => exact rfl)) | ((with_reducible first | refine hN _ ?_ | refine hX _ _ ?_ | refine hR _ ?_); (try (clear hG; clear Kg)); clear hN hX hR; clear Kv) | ((conv => whnf); first | (with_reducible first | rfl | exact True.intro | intro _ | refine And.intro ?_ ?_) | ((with_reducible first | refine hN _ ?_ | refine hX _ _ ?_ | refine hR _ ?_); (try (clear hG; clear Kg)); clear hN hX hR; clear Kv) | (with_reducible first | refine BdS (fun Kv hN hX hR => ?_) | refine Stop.mk ?_ | refine Join.mk ⟨fun Kv hN hX hR => ?_, ?_⟩ | refine DrawJ.each ?_ | exact SubJ.self _) | with_reducible refine SubJ.of ?_ | (with_reducible first | refine FlS (fun Kf hF => ?_) | refine FlN ?_ | refine NdS (fun Kg hG => ?_) | (refine hF _ _ ?_; clear hF; clear Kf) | (refine hG _ _ _ _ ?_; clear hG; clear Kg))))); all_goals (conv => whnf); all_goals (repeat ((try (clear hG; clear Kg)); clear hN hX hR; clear Kv))
                           all_goals first
                             | (refine congrArg Rw.ints ?_
                                simp
                                done)
                             | rfl
                             | trace_state)
                        | (with_reducible intro k hk
                           have hk : k ≤ w.packets.length := hk
                           have m3 := mM k
                           (repeat' (first | ((with_reducible refine BdI ?_); (first | ((with_reducible refine SqI ?_ (fun Kv hN hX hR => ?_)); (next => exact rfl)) | ((with_reducible refine JnI ?_ ?_); (next => exact rfl)) | (conv => whnf))) | (with_reducible first | refine BdS (fun Kv hN hX hR => ?_) | refine Stop.mk ?_ | refine Join.mk ⟨fun Kv hN hX hR => ?_, ?_⟩ | refine DrawJ.each ?_ | exact SubJ.self _) | with_reducible refine SubJ.of ?_ | (with_reducible first | refine FlS (fun Kf hF => ?_) | refine FlN ?_ | refine NdS (fun Kg hG => ?_) | (refine hF _ _ ?_; clear hF; clear Kf) | (refine hG _ _ _ _ ?_; clear hG; clear Kg)) | ((with_reducible refine SqI ?_ (fun Kv hN hX hR => ?_)); (next => exact rfl)) | ((with_reducible refine JnI ?_ ?_); (next => exact rfl)) | ((with_reducible first | refine hN _ ?_ | refine hX _ _ ?_ | refine hR _ ?_); (try (clear hG; clear Kg)); clear hN hX hR; clear Kv) | ((conv => whnf); first | (with_reducible first | rfl | exact True.intro | refine (fun (_ : (_ : Prop)) => ?_) | refine And.intro ?_ ?_) | ((with_reducible first | refine hN _ ?_ | refine hX _ _ ?_ | refine hR _ ?_); (try (clear hG; clear Kg)); clear hN hX hR; clear Kv) | (with_reducible first | refine BdS (fun Kv hN hX hR => ?_) | refine Stop.mk ?_ | refine Join.mk ⟨fun Kv hN hX hR => ?_, ?_⟩ | refine DrawJ.each ?_ | exact SubJ.self _) | with_reducible refine SubJ.of ?_ | (with_reducible first | refine FlS (fun Kf hF => ?_) | refine FlN ?_ | refine NdS (fun Kg hG => ?_) | (refine hF _ _ ?_; clear hF; clear Kf) | (refine hG _ _ _ _ ?_; clear hG; clear Kg))))); all_goals (conv => whnf); all_goals (repeat ((try (clear hG; clear Kg)); clear hN hX hR; clear Kv))
                           all_goals (try simp only [Int.toNat_natCast] at *)
                           all_goals first
                             | exact Ob.mk ⟨by omega, of_decide_eq_true (by with_reducible assumption)⟩
                             | (have h := of_decide_eq_true (show decide ((k : Int) < (w.packets.length : Nat)) = true by with_reducible assumption)
                                have hx := mayB_ids (q2 _ (getD_mem (d := default) (show k < w.packets.length by omega)))
                                first
                                  | (refine Ob.mk ?_
                                     simp only [Rw.len, Rw.bts, Rw.kd, kdBytes, List.length_append, List.length_cons, List.length_nil]
                                     omega)
                                  | (have e1 := fm_succ (f := namedM) (show k < w.packets.length by omega)
                                     refine ⟨k + 1, by omega, by omega, ?_⟩
                                     (repeat' (first | ((with_reducible refine BdI ?_); (first | ((with_reducible refine SqI ?_ (fun Kv hN hX hR => ?_)); (next => exact rfl)) | ((with_reducible refine JnI ?_ ?_); (next => exact rfl)) | (conv => whnf))) | (with_reducible first | refine BdS (fun Kv hN hX hR => ?_) | refine Stop.mk ?_ | refine Join.mk ⟨fun Kv hN hX hR => ?_, ?_⟩ | refine DrawJ.each ?_ | exact SubJ.self _) | with_reducible refine SubJ.of ?_ | (with_reducible first | refine FlS (fun Kf hF => ?_) | refine FlN ?_ | refine NdS (fun Kg hG => ?_) | (refine hF _ _ ?_; clear hF; clear Kf) | (refine hG _ _ _ _ ?_; clear hG; clear Kg)) | ((with_reducible refine SqI ?_ (fun Kv hN hX hR => ?_)); (next => exact rfl)) | ((with_reducible refine JnI ?_ ?_); (next => exact rfl)) | ((with_reducible first | refine hN _ ?_ | refine hX _ _ ?_ | refine hR _ ?_); (try (clear hG; clear Kg)); clear hN hX hR; clear Kv) | ((conv => whnf); first | (with_reducible first | rfl | exact True.intro | intro _ | refine And.intro ?_ ?_) | ((with_reducible first | refine hN _ ?_ | refine hX _ _ ?_ | refine hR _ ?_); (try (clear hG; clear Kg)); clear hN hX hR; clear Kv) | (with_reducible first | refine BdS (fun Kv hN hX hR => ?_) | refine Stop.mk ?_ | refine Join.mk ⟨fun Kv hN hX hR => ?_, ?_⟩ | refine DrawJ.each ?_ | exact SubJ.self _) | with_reducible refine SubJ.of ?_ | (with_reducible first | refine FlS (fun Kf hF => ?_) | refine FlN ?_ | refine NdS (fun Kg hG => ?_) | (refine hF _ _ ?_; clear hF; clear Kf) | (refine hG _ _ _ _ ?_; clear hG; clear Kg))))); all_goals (conv => whnf); all_goals (repeat ((try (clear hG; clear Kg)); clear hN hX hR; clear Kv))
                                     all_goals first
                                       | exact wrapI (by omega) (by omega)
                                       | (refine congrArg Rw.ints ?_
                                          rw [e1, show namedM (w.packets.getD k default) = [(w.packets.getD k default).src, (w.packets.getD k default).dst] ++ (w.packets.getD k default).ids from rfl]
                                          simp only [List.append_assoc])
                                       | rfl
                                       | trace_state))
                             | (have h := of_decide_eq_false (show decide ((k : Int) < (w.packets.length : Nat)) = false by with_reducible assumption)
                                have hT : w.packets.take k = w.packets := List.take_of_length_le (by omega)
                                rw [hT]
                                rfl)
                             | trace_state)
                        | trace_state)
                   | trace_state)
              | trace_state)
         | trace_state)
    | trace_state
theorem k_wMay1 : Known Tryz.prog tau 67 (S2 dInt dPWorld fun x w => .ob (RisingN w.nodes) (.bool (!isNd w.nodes x)) []) := by
  refine known2 hmix tau_ok (ctx_cons k_wFind ctx_nil) (fn := Tryz.f67) (by kernel_rfl) [] (by kernel_rfl) _ _ _ fun x w hfit hs => ⟨rfl, [], ?_⟩
  clear hfit
  (repeat' (first | ((with_reducible refine BdI ?_); (first | ((with_reducible refine SqI ?_ (fun Kv hN hX hR => ?_)); (next => exact rfl)) | ((with_reducible refine JnI ?_ ?_); (next => exact rfl)) | (conv => whnf))) | (with_reducible first | refine BdS (fun Kv hN hX hR => ?_) | refine Stop.mk ?_ | refine Join.mk ⟨fun Kv hN hX hR => ?_, ?_⟩ | refine DrawJ.each ?_ | exact SubJ.self _) | with_reducible refine SubJ.of ?_ | (with_reducible first | refine FlS (fun Kf hF => ?_) | refine FlN ?_ | refine NdS (fun Kg hG => ?_) | (refine hF _ _ ?_; clear hF; clear Kf) | (refine hG _ _ _ _ ?_; clear hG; clear Kg)) | ((with_reducible refine SqI ?_ (fun Kv hN hX hR => ?_)); (next => exact rfl)) | ((with_reducible refine JnI ?_ ?_); (next => exact rfl)) | ((with_reducible first | refine hN _ ?_ | refine hX _ _ ?_ | refine hR _ ?_); (try (clear hG; clear Kg)); clear hN hX hR; clear Kv) | ((conv => whnf); first | (with_reducible first | rfl | exact True.intro | intro _ | refine And.intro ?_ ?_) | ((with_reducible first | refine hN _ ?_ | refine hX _ _ ?_ | refine hR _ ?_); (try (clear hG; clear Kg)); clear hN hX hR; clear Kv) | (with_reducible first | refine BdS (fun Kv hN hX hR => ?_) | refine Stop.mk ?_ | refine Join.mk ⟨fun Kv hN hX hR => ?_, ?_⟩ | refine DrawJ.each ?_ | exact SubJ.self _) | with_reducible refine SubJ.of ?_ | (with_reducible first | refine FlS (fun Kf hF => ?_) | refine FlN ?_ | refine NdS (fun Kg hG => ?_) | (refine hF _ _ ?_; clear hF; clear Kf) | (refine hG _ _ _ _ ?_; clear hG; clear Kg))))); all_goals (conv => whnf); all_goals (repeat ((try (clear hG; clear Kg)); clear hN hX hR; clear Kv))
  all_goals first
    | exact Ob.mk hs
    | rfl
    | trace_state
theorem k_wIndex : Known Tryz.prog tau 105 (S2 dInts (dFnWorld 67) fun l w => .ob (RisingN w.nodes) (.int .i64 (idxI (fun x => !isNd w.nodes x) l)) []) := by
  refine known2 hmix tau_ok (ctx_cons k_wMay1 ctx_nil) (fn := Tryz.f105) (by kernel_rfl) [] (by kernel_rfl) _ _ _ fun xs w hfit hs => ⟨rfl,
    [(2, invN [4, 5, 8, 9, 10, 11, 12, 13, 14, 15, 16, 17, 18] (fun i => i ≤ xs.length ∧ ∀ x ∈ xs.take i, (!isNd w.nodes x) = false) (fun i => withS [(8, .int .i64 i)]) (fun i => xs.length - i))], ?_⟩
  have hlen : xs.length * 8 ≤ 140737488355328 := hfit.1
  clear hfit
  (repeat' (first | ((with_reducible refine BdI ?_); (first | ((with_reducible refine SqI ?_ (fun Kv hN hX hR => ?_)); (next => exact rfl)) | ((with_reducible refine JnI ?_ ?_); (next => exact rfl)) | (conv => whnf))) | (with_reducible first | refine BdS (fun Kv hN hX hR => ?_) | refine Stop.mk ?_ | refine Join.mk ⟨fun Kv hN hX hR => ?_, ?_⟩ | refine DrawJ.each ?_ | exact SubJ.self _) | with_reducible refine SubJ.of ?_ | (with_reducible first | refine FlS (fun Kf hF => ?_) | refine FlN ?_ | refine NdS (fun Kg hG => ?_) | (refine hF _ _ ?_; clear hF; clear Kf) | (refine hG _ _ _ _ ?_; clear hG; clear Kg)) | ((with_reducible refine SqI ?_ (fun Kv hN hX hR => ?_)); (next => exact rfl)) | ((with_reducible refine JnI ?_ ?_); (next => exact rfl)) | ((with_reducible first | refine hN _ ?_ | refine hX _ _ ?_ | refine hR _ ?_); (try (clear hG; clear Kg)); clear hN hX hR; clear Kv) | ((conv => whnf); first | (with_reducible first | rfl | exact True.intro | refine (fun (_ : (_ : Prop)) => ?_) | refine And.intro ?_ ?_) | ((with_reducible first | refine hN _ ?_ | refine hX _ _ ?_ | refine hR _ ?_); (try (clear hG; clear Kg)); clear hN hX hR; clear Kv) | (with_reducible first | refine BdS (fun Kv hN hX hR => ?_) | refine Stop.mk ?_ | refine Join.mk ⟨fun Kv hN hX hR => ?_, ?_⟩ | refine DrawJ.each ?_ | exact SubJ.self _) | with_reducible refine SubJ.of ?_ | (with_reducible first | refine FlS (fun Kf hF => ?_) | refine FlN ?_ | refine NdS (fun Kg hG => ?_) | (refine hF _ _ ?_; clear hF; clear Kf) | (refine hG _ _ _ _ ?_; clear hG; clear Kg))))); all_goals (conv => whnf); all_goals (repeat ((try (clear hG; clear Kg)); clear hN hX hR; clear Kv))
  all_goals first
    | (refine ⟨0, ⟨by omega, by simp⟩, ?_⟩
       (repeat' (first | ((with_reducible refine BdI ?_); (first | ((with_reducible refine SqI ?_ (fun Kv hN hX hR => ?_)); (next => exact rfl)) | ((with_reducible refine JnI ?_ ?_); (next => exact rfl)) | (conv => whnf))) | (with_reducible first | refine BdS (fun Kv hN hX hR => ?_) | refine Stop.mk ?_ | refine Join.mk ⟨fun Kv hN hX hR => ?_, ?_⟩ | refine DrawJ.each ?_ | exact SubJ.self _) | with_reducible refine SubJ.of ?_ | (with_reducible first | refine FlS (fun Kf hF => ?_) | refine FlN ?_ | refine NdS (fun Kg hG => ?_) | (refine hF _ _ ?_; clear hF; clear Kf) | (refine hG _ _ _ _ ?_; clear hG; clear Kg)) | ((with_reducible refine SqI ?_ (fun Kv hN hX hR => ?_)); (next => exact rfl)) | ((with_reducible refine JnI ?_ ?_); (next => exact rfl)) | ((with_reducible first | refine hN _ ?_ | refine hX _ _ ?_ | refine hR _ ?_); (try (clear hG; clear Kg)); clear hN hX hR; clear Kv) | ((conv => whnf); first | (with_reducible first | rfl | exact True.intro | intro _ | refine And.intro ?_ ?_) | ((with_reducible first | refine hN _ ?_ | refine hX _ _ ?_ | refine hR _ ?_); (try (clear hG; clear Kg)); clear hN hX hR; clear Kv) | (with_reducible first | refine BdS (fun Kv hN hX hR => ?_) | refine Stop.mk ?_ | refine Join.mk ⟨fun Kv hN hX hR => ?_, ?_⟩ | refine DrawJ.each ?_ | exact SubJ.self _) | with_reducible refine SubJ.of ?_ | (with_reducible first | refine FlS (fun Kf hF => ?_) | refine FlN ?_ | refine NdS (fun Kg hG => ?_) | (refine hF _ _ ?_; clear hF; clear Kf) | (refine hG _ _ _ _ ?_; clear hG; clear Kg))))); all_goals (conv => whnf); all_goals (repeat ((try (clear hG; clear Kg)); clear hN hX hR; clear Kv))
       all_goals rfl)
    | (with_reducible intro i hi
       (repeat' (first | ((with_reducible refine BdI ?_); (first | ((with_reducible refine SqI ?_ (fun Kv hN hX hR => ?_)); (next => exact rfl)) | ((with_reducible refine JnI ?_ ?_); (next => exact rfl)) | (conv => whnf))) | (with_reducible first | refine BdS (fun Kv hN hX hR => ?_) | refine Stop.mk ?_ | refine Join.mk ⟨fun Kv hN hX hR => ?_, ?_⟩ | refine DrawJ.each ?_ | exact SubJ.self _) | with_reducible refine SubJ.of ?_ | (with_reducible first | refine FlS (fun Kf hF => ?_) | refine FlN ?_ | refine NdS (fun Kg hG => ?_) | (refine hF _ _ ?_; clear hF; clear Kf) | (refine hG _ _ _ _ ?_; clear hG; clear Kg)) | ((with_reducible refine SqI ?_ (fun Kv hN hX hR => ?_)); (next => exact rfl)) | ((with_reducible refine JnI ?_ ?_); (next => exact rfl)) | ((with_reducible first | refine hN _ ?_ | refine hX _ _ ?_ | refine hR _ ?_); (try (clear hG; clear Kg)); clear hN hX hR; clear Kv) | ((conv => whnf); first | (with_reducible first | rfl | exact True.intro | intro _ | refine And.intro ?_ ?_) | ((with_reducible first | refine hN _ ?_ | refine hX _ _ ?_ | refine hR _ ?_); (try (clear hG; clear Kg)); clear hN hX hR; clear Kv) | (with_reducible first | refine BdS (fun Kv hN hX hR => ?_) | refine Stop.mk ?_ | refine Join.mk ⟨fun Kv hN hX hR => ?_, ?_⟩ | refine DrawJ.each ?_ | exact SubJ.self _) | with_reducible refine SubJ.of ?_ | (with_reducible first | refine FlS (fun Kf hF => ?_) | refine FlN ?_ | refine NdS (fun Kg hG => ?_) | (refine hF _ _ ?_; clear hF; clear Kf) | (refine hG _ _ _ _ ?_; clear hG; clear Kg))))); all_goals (conv => whnf); all_goals (repeat ((try (clear hG; clear Kg)); clear hN hX hR; clear Kv))
       all_goals (try simp only [Int.toNat_natCast] at *)
       all_goals first
         | exact Ob.mk ⟨by omega, of_decide_eq_true (by with_reducible assumption)⟩
         | exact Ob.mk hs
         | (have h := of_decide_eq_true (show decide ((i : Int) < (xs.length : Nat)) = true by with_reducible assumption)
            exact (idxI_at (d := 0) (by omega) hi.2 (by with_reducible assumption)).symm)
         | (have h := of_decide_eq_true (show decide ((i : Int) < (xs.length : Nat)) = true by with_reducible assumption)
            refine ⟨i + 1, ⟨by omega, all_take_succ (d := 0) (by omega) hi.2 (by with_reducible assumption)⟩, by show xs.length - (i + 1) < xs.length - i; omega, ?_⟩
            (repeat' (first | ((with_reducible refine BdI ?_); (first | ((with_reducible refine SqI ?_ (fun Kv hN hX hR => ?_)); (next => exact rfl)) | ((with_reducible refine JnI ?_ ?_); (next => exact rfl)) | (conv => whnf))) | (with_reducible first | refine BdS (fun Kv hN hX hR => ?_) | refine Stop.mk ?_ | refine Join.mk ⟨fun Kv hN hX hR => ?_, ?_⟩ | refine DrawJ.each ?_ | exact SubJ.self _) | with_reducible refine SubJ.of ?_ | (with_reducible first | refine FlS (fun Kf hF => ?_) | refine FlN ?_ | refine NdS (fun Kg hG => ?_) | (refine hF _ _ ?_; clear hF; clear Kf) | (refine hG _ _ _ _ ?_; clear hG; clear Kg)) | ((with_reducible refine SqI ?_ (fun Kv hN hX hR => ?_)); (next => exact rfl)) | ((with_reducible refine JnI ?_ ?_); (next => exact rfl)) | ((with_reducible first | refine hN _ ?_ | refine hX _ _ ?_ | refine hR _ ?_); (try (clear hG; clear Kg)); clear hN hX hR; clear Kv) | ((conv => whnf); first | (with_reducible first | rfl | exact True.intro | intro _ | refine And.intro ?_ ?_) | ((with_reducible first | refine hN _ ?_ | refine hX _ _ ?_ | refine hR _ ?_); (try (clear hG; clear Kg)); clear hN hX hR; clear Kv) | (with_reducible first | refine BdS (fun Kv hN hX hR => ?_) | refine Stop.mk ?_ | refine Join.mk ⟨fun Kv hN hX hR => ?_, ?_⟩ | refine DrawJ.each ?_ | exact SubJ.self _) | with_reducible refine SubJ.of ?_ | (with_reducible first | refine FlS (fun Kf hF => ?_) | refine FlN ?_ | refine NdS (fun Kg hG => ?_) | (refine hF _ _ ?_; clear hF; clear Kf) | (refine hG _ _ _ _ ?_; clear hG; clear Kg))))); all_goals (conv => whnf); all_goals (repeat ((try (clear hG; clear Kg)); clear hN hX hR; clear Kv))
            all_goals first
              | exact wrapI (by omega) (by omega)
              | rfl)
         | (have h := of_decide_eq_false (show decide ((i : Int) < (xs.length : Nat)) = false by with_reducible assumption)
            have h2 := hi.2
            rw [List.take_of_length_le (by omega)] at h2
            exact (idxI_none h2).symm)
         | trace_state)
    | trace_state
theorem k_wContains : Known Tryz.prog tau 65 (S2 dInts (dFnWorld 67) fun l w => .ob (RisingN w.nodes) (.bool (l.any fun x => !isNd w.nodes x)) []) := by
  refine known2 hmix tau_ok (ctx_cons k_wIndex ctx_nil) (fn := Tryz.f65) (by kernel_rfl) [] (by kernel_rfl) _ _ _ fun xs w hfit hs => ⟨rfl, [], ?_⟩
  clear hfit
  (repeat' (first | ((with_reducible refine BdI ?_); (first | ((with_reducible refine SqI ?_ (fun Kv hN hX hR => ?_)); (next => exact rfl)) | ((with_reducible refine JnI ?_ ?_); (next => exact rfl)) | (conv => whnf))) | (with_reducible first | refine BdS (fun Kv hN hX hR => ?_) | refine Stop.mk ?_ | refine Join.mk ⟨fun Kv hN hX hR => ?_, ?_⟩ | refine DrawJ.each ?_ | exact SubJ.self _) | with_reducible refine SubJ.of ?_ | (with_reducible first | refine FlS (fun Kf hF => ?_) | refine FlN ?_ | refine NdS (fun Kg hG => ?_) | (refine hF _ _ ?_; clear hF; clear Kf) | (refine hG _ _ _ _ ?_; clear hG; clear Kg)) | ((with_reducible refine SqI ?_ (fun Kv hN hX hR => ?_)); (next => exact rfl)) | ((with_reducible refine JnI ?_ ?_); (next => exact rfl)) | ((with_reducible first | refine hN _ ?_ | refine hX _ _ ?_ | refine hR _ ?_); (try (clear hG; clear Kg)); clear hN hX hR; clear Kv) | ((conv => whnf); first | (with_reducible first | rfl | exact True.intro | intro _ | refine And.intro ?_ ?_) | ((with_reducible first | refine hN _ ?_ | refine hX _ _ ?_ | refine hR _ ?_); (try (clear hG; clear Kg)); clear hN hX hR; clear Kv) | (with_reducible first | refine BdS (fun Kv hN hX hR => ?_) | refine Stop.mk ?_ | refine Join.mk ⟨fun Kv hN hX hR => ?_, ?_⟩ | refine DrawJ.each ?_ | exact SubJ.self _) | with_reducible refine SubJ.of ?_ | (with_reducible first | refine FlS (fun Kf hF => ?_) | refine FlN ?_ | refine NdS (fun Kg hG => ?_) | (refine hF _ _ ?_; clear hF; clear Kf) | (refine hG _ _ _ _ ?_; clear hG; clear Kg))))); all_goals (conv => whnf); all_goals (repeat ((try (clear hG; clear Kg)); clear hN hX hR; clear Kv))
  all_goals first
    | exact Ob.mk hs
    | exact idxI_ge _ _
    | trace_state
/-- May a world be? -/
def worldB (w : GWorld) : Bool := nodesB w.nodes && (cutsB w.cuts && (queueB w.packets && (namedW w).all (isNd w.nodes)))
theorem etaWorld (w : GWorld) : (⟨w.nodes, w.cuts, w.packets⟩ : GWorld) = w := rfl
theorem worldB_iff {w : GWorld} : worldB w = true ↔ nodesB w.nodes = true ∧ cutsB w.cuts = true ∧ queueB w.packets = true ∧ (namedW w).all (isNd w.nodes) = true := by
  simp only [worldB, Bool.and_eq_true]
theorem worldB_no {w : GWorld} (h : ¬ (nodesB w.nodes = true ∧ cutsB w.cuts = true ∧ queueB w.packets = true ∧ (namedW w).all (isNd w.nodes) = true)) : worldB w = false := by
  rw [← worldB_iff] at h
  simpa using h
theorem any_notI (l : List Int) (p : Int → Bool) : (!l.any fun x => !p x) = l.all p := by
  induction l with
  | nil => rfl
  | cons x l ih => rw [List.any_cons, List.all_cons, Bool.not_or, ih, Bool.not_not]
theorem k_worldMay : Known Tryz.prog tau 24 (S1 dWorld fun w => okB (worldB w)) := by
  refine known1 hmix tau_ok (ctx_cons k_nodes (ctx_cons k_cutsMay (ctx_cons k_qMay (ctx_cons k_named (ctx_cons k_wContains ctx_nil))))) (fn := Tryz.f24) (by kernel_rfl) [] (by kernel_rfl) _ _ fun w hfit => ⟨rfl, [], ?_⟩
  clear hfit
  (repeat' (first | ((with_reducible refine BdI ?_); (first | ((with_reducible refine SqI ?_ (fun Kv hN hX hR => ?_)); (next => exact rfl)) | ((with_reducible refine JnI ?_ ?_); (next => exact rfl)) | (conv => whnf))) | (with_reducible first | refine BdS (fun Kv hN hX hR => ?_) | refine Stop.mk ?_ | refine Join.mk ⟨fun Kv hN hX hR => ?_, ?_⟩ | refine DrawJ.each ?_ | exact SubJ.self _) | with_reducible refine SubJ.of ?_ | (with_reducible first | refine FlS (fun Kf hF => ?_) | refine FlN ?_ | refine NdS (fun Kg hG => ?_) | (refine hF _ _ ?_; clear hF; clear Kf) | (refine hG _ _ _ _ ?_; clear hG; clear Kg)) | ((with_reducible refine SqI ?_ (fun Kv hN hX hR => ?_)); (next => exact rfl)) | ((with_reducible refine JnI ?_ ?_); (next => exact rfl)) | ((with_reducible first | refine hN _ ?_ | refine hX _ _ ?_ | refine hR _ ?_); (try (clear hG; clear Kg)); clear hN hX hR; clear Kv) | ((conv => whnf); first | (with_reducible first | rfl | exact True.intro | intro _ | refine And.intro ?_ ?_) | ((with_reducible first | refine hN _ ?_ | refine hX _ _ ?_ | refine hR _ ?_); (try (clear hG; clear Kg)); clear hN hX hR; clear Kv) | (with_reducible first | refine BdS (fun Kv hN hX hR => ?_) | refine Stop.mk ?_ | refine Join.mk ⟨fun Kv hN hX hR => ?_, ?_⟩ | refine DrawJ.each ?_ | exact SubJ.self _) | with_reducible refine SubJ.of ?_ | (with_reducible first | refine FlS (fun Kf hF => ?_) | refine FlN ?_ | refine NdS (fun Kg hG => ?_) | (refine hF _ _ ?_; clear hF; clear Kf) | (refine hG _ _ _ _ ?_; clear hG; clear Kg))))); all_goals (conv => whnf); all_goals (repeat ((try (clear hG; clear Kg)); clear hN hX hR; clear Kv))
  all_goals (try simp only [etaWorld] at *)
  all_goals first
    | (have h := nf (show (!nodesB w.nodes) = true by with_reducible assumption)
       exact (worldB_no fun g => by rw [g.1] at h; simp at h).symm)
    | (have h := nf (show (!cutsB w.cuts) = true by with_reducible assumption)
       exact (worldB_no fun g => by rw [g.2.1] at h; simp at h).symm)
    | (have h := nf (show (!queueB w.packets) = true by with_reducible assumption)
       exact (worldB_no fun g => by rw [g.2.2.1] at h; simp at h).symm)
    | (have h1 := nt (show (!nodesB w.nodes) = false by with_reducible assumption)
       have h2 := nt (show (!cutsB w.cuts) = false by with_reducible assumption)
       have h3 := nt (show (!queueB w.packets) = false by with_reducible assumption)
       first
         | exact Ob.mk ⟨h1, h2, h3⟩
         | exact Ob.mk (nodesB_iff.1 h1).2.2.1
         | (unfold worldB
            rw [h1, h2, h3, any_notI]
            rfl)
         | trace_state)
    | trace_state
end Go.Proofs.YtmhieddhmebfhaaGreat

/- Contracts: worlds: their copies. -/
namespace Go.Proofs.YtmhieddhmebfhaaGreat
open Go.RowKit
set_option maxRecDepth 20000
theorem set_selfN {l : List GNode} {i : Nat} (hi : i < l.length) : l.set i (l.getD i default) = l := by
  apply List.ext_getElem (by simp)
  intro j h1 h2
  rw [List.getElem_set]
  split
  · rename_i h; subst h; simp [List.getD_eq_getElem?_getD, hi]
  · rfl
def wOwn (w : GWorld) : List Rw := [.nodes w.nodes, .cuts w.cuts, .msgs w.packets]
set_option maxHeartbeats 1000000 in
theorem k_worldCopy : Known Tryz.prog tau 56 (S1 dWorld fun w => .ok (.agg [.own 0, .own 1, .own 2]) (wOwn w)) := by
  refine knownX1 hmix tau_ok (fn := Tryz.f56) (by kernel_rfl) [(1, [(0, 0), (1, 1), (2, 2), (3, 0), (4, 8), (5, 20), (6, 0), (7, 64), (8, 160), (9, 223), (10, 991), (11, 1791), (12, 3839), (13, 8191), (14, 16383)]), (5, [(0, 0), (1, 1), (2, 0), (3, 0), (4, 8), (5, 0), (6, 48), (7, 64), (8, 128), (9, 511), (10, 1023)])] (by kernel_rfl) _ _ fun w hfit => ⟨rfl, _, ctx_tr (t_CloneNodes 9000000) (ctx_cons k_CloneCuts (ctx_cons k_qCopy (ctx_cons k_nodeCopy ctx_nil))),
    [(3, invX Nat [3, 19, 20, 21, 22, 23, 24, 25, 26, 27, 28, 29, 30, 31, 32] [9000000] (fun i => i ≤ w.nodes.length) (fun i st => withS [(19, .int .i64 i)] (withR [(9000000, .part i (.nodes w.nodes))] st)) (fun i => w.nodes.length - i))], ?_⟩
  have hlen : w.nodes.length * 112 ≤ 140737488355328 := hfit.1.1.1
  clear hfit
  (repeat' (first | ((with_reducible refine BdI ?_); (first | ((with_reducible refine SqI ?_ (fun Kv hN hX hR => ?_)); (next => exact rfl)) | ((with_reducible refine JnI ?_ ?_); (next => exact rfl)) | (conv => whnf))) | (with_reducible first | refine BdS (fun Kv hN hX hR => ?_) | refine Stop.mk ?_ | refine Join.mk ⟨fun Kv hN hX hR => ?_, ?_⟩ | apply DrawJ.join | exact SubJ.self _) | ((with_reducible refine SubJ.of ?_); (repeat' (first | with_reducible rfl | ((conv => whnf) <;> (first | with_reducible exact True.intro | with_reducible refine And.intro ?_ ?_ | with_reducible rfl | ((conv => rhs; whnf) <;> with_reducible rfl))))); done) | (with_reducible first | refine FlS (fun Kf hF => ?_) | refine FlN ?_ | refine NdS (fun Kg hG => ?_) | (refine hF _ _ ?_; clear hF; clear Kf) | (refine hG _ _ _ _ ?_; clear hG; clear Kg)) | ((with_reducible refine SqI ?_ (fun Kv hN hX hR => ?_)); (next => exact rfl)) | ((with_reducible refine JnI ?_ ?_); (next => exact rfl)) | ((with_reducible first | refine hN _ ?_ | refine hX _ _ ?_ | refine hR _ ?_); (try (clear hG; clear Kg)); clear hN hX hR; clear Kv) | ((conv => whnf); first | (with_reducible first | rfl | exact True.intro | refine (fun (_ : (_ : Prop)) => ?_) | refine And.intro ?_ ?_) | ((with_reducible first | refine hN _ ?_ | refine hX _ _ ?_ | refine hR _ ?_); (try (clear hG; clear Kg)); clear hN hX hR; clear Kv) | (with_reducible first | refine BdS (fun Kv hN hX hR => ?_) | refine Stop.mk ?_ | refine Join.mk ⟨fun Kv hN hX hR => ?_, ?_⟩ | apply DrawJ.join | exact SubJ.self _) | ((with_reducible refine SubJ.of ?_); (repeat' (first | with_reducible rfl | ((conv => whnf) <;> (first | with_reducible exact True.intro | with_reducible refine And.intro ?_ ?_ | with_reducible rfl | ((conv => rhs; whnf) <;> with_reducible rfl))))); done) | (with_reducible first | refine FlS (fun Kf hF => ?_) | refine FlN ?_ | refine NdS (fun Kg hG => ?_) | (refine hF _ _ ?_; clear hF; clear Kf) | (refine hG _ _ _ _ ?_; clear hG; clear Kg))))); all_goals (conv => whnf); all_goals (repeat ((try (clear hG; clear Kg)); clear hN hX hR; clear Kv))
  all_goals first
    | (refine ⟨0, Nat.zero_le _, ?_⟩
       (repeat' (first | ((with_reducible refine BdI ?_); (first | ((with_reducible refine SqI ?_ (fun Kv hN hX hR => ?_)); (next => exact rfl)) | ((with_reducible refine JnI ?_ ?_); (next => exact rfl)) | (conv => whnf))) | (with_reducible first | refine BdS (fun Kv hN hX hR => ?_) | refine Stop.mk ?_ | refine Join.mk ⟨fun Kv hN hX hR => ?_, ?_⟩ | refine DrawJ.each ?_ | exact SubJ.self _) | with_reducible refine SubJ.of ?_ | (with_reducible first | refine FlS (fun Kf hF => ?_) | refine FlN ?_ | refine NdS (fun Kg hG => ?_) | (refine hF _ _ ?_; clear hF; clear Kf) | (refine hG _ _ _ _ ?_; clear hG; clear Kg)) | ((with_reducible refine SqI ?_ (fun Kv hN hX hR => ?_)); (next => exact rfl)) | ((with_reducible refine JnI ?_ ?_); (next => exact rfl)) | ((with_reducible first | refine hN _ ?_ | refine hX _ _ ?_ | refine hR _ ?_); (try (clear hG; clear Kg)); clear hN hX hR; clear Kv) | ((conv => whnf); first | (with_reducible first | rfl | exact True.intro | intro _ | refine And.intro ?_ ?_) | ((with_reducible first | refine hN _ ?_ | refine hX _ _ ?_ | refine hR _ ?_); (try (clear hG; clear Kg)); clear hN hX hR; clear Kv) | (with_reducible first | refine BdS (fun Kv hN hX hR => ?_) | refine Stop.mk ?_ | refine Join.mk ⟨fun Kv hN hX hR => ?_, ?_⟩ | refine DrawJ.each ?_ | exact SubJ.self _) | with_reducible refine SubJ.of ?_ | (with_reducible first | refine FlS (fun Kf hF => ?_) | refine FlN ?_ | refine NdS (fun Kg hG => ?_) | (refine hF _ _ ?_; clear hF; clear Kf) | (refine hG _ _ _ _ ?_; clear hG; clear Kg))))); all_goals (conv => whnf); all_goals (repeat ((try (clear hG; clear Kg)); clear hN hX hR; clear Kv))
       all_goals rfl)
    | (with_reducible intro i hi
       have hi : i ≤ w.nodes.length := hi
       (repeat' (first | ((with_reducible refine BdI ?_); (first | ((with_reducible refine SqI ?_ (fun Kv hN hX hR => ?_)); (next => exact rfl)) | ((with_reducible refine JnI ?_ ?_); (next => exact rfl)) | (conv => whnf))) | (with_reducible first | refine BdS (fun Kv hN hX hR => ?_) | refine Stop.mk ?_ | refine Join.mk ⟨fun Kv hN hX hR => ?_, ?_⟩ | refine DrawJ.each ?_ | exact SubJ.self _) | with_reducible refine SubJ.of ?_ | (with_reducible first | refine FlS (fun Kf hF => ?_) | refine FlN ?_ | refine NdS (fun Kg hG => ?_) | (refine hF _ _ ?_; clear hF; clear Kf) | (refine hG _ _ _ _ ?_; clear hG; clear Kg)) | ((with_reducible refine SqI ?_ (fun Kv hN hX hR => ?_)); (next => exact rfl)) | ((with_reducible refine JnI ?_ ?_); (next => exact rfl)) | ((with_reducible first | refine hN _ ?_ | refine hX _ _ ?_ | refine hR _ ?_); (try (clear hG; clear Kg)); clear hN hX hR; clear Kv) | ((conv => whnf); first | (with_reducible first | rfl | exact True.intro | intro _ | refine And.intro ?_ ?_) | ((with_reducible first | refine hN _ ?_ | refine hX _ _ ?_ | refine hR _ ?_); (try (clear hG; clear Kg)); clear hN hX hR; clear Kv) | (with_reducible first | refine BdS (fun Kv hN hX hR => ?_) | refine Stop.mk ?_ | refine Join.mk ⟨fun Kv hN hX hR => ?_, ?_⟩ | refine DrawJ.each ?_ | exact SubJ.self _) | with_reducible refine SubJ.of ?_ | (with_reducible first | refine FlS (fun Kf hF => ?_) | refine FlN ?_ | refine NdS (fun Kg hG => ?_) | (refine hF _ _ ?_; clear hF; clear Kf) | (refine hG _ _ _ _ ?_; clear hG; clear Kg))))); all_goals (conv => whnf); all_goals (repeat ((try (clear hG; clear Kg)); clear hN hX hR; clear Kv))
       all_goals (try simp only [Int.toNat_natCast, etaNd] at *)
       all_goals first
         | exact Ob.mk ⟨by omega, of_decide_eq_true (by with_reducible assumption)⟩
         | (have h := of_decide_eq_true (show decide ((i : Int) < (w.nodes.length : Nat)) = true by with_reducible assumption)
            have h2 : i < w.nodes.length := by omega
            refine ⟨i + 1, h2, by omega, ?_⟩
            have e1 := set_selfN h2
            have e2 := loStep_self i
            (repeat' (first | ((with_reducible refine BdI ?_); (first | ((with_reducible refine SqI ?_ (fun Kv hN hX hR => ?_)); (next => exact rfl)) | ((with_reducible refine JnI ?_ ?_); (next => exact rfl)) | (conv => whnf))) | (with_reducible first | refine BdS (fun Kv hN hX hR => ?_) | refine Stop.mk ?_ | refine Join.mk ⟨fun Kv hN hX hR => ?_, ?_⟩ | refine DrawJ.each ?_ | exact SubJ.self _) | with_reducible refine SubJ.of ?_ | (with_reducible first | refine FlS (fun Kf hF => ?_) | refine FlN ?_ | refine NdS (fun Kg hG => ?_) | (refine hF _ _ ?_; clear hF; clear Kf) | (refine hG _ _ _ _ ?_; clear hG; clear Kg)) | ((with_reducible refine SqI ?_ (fun Kv hN hX hR => ?_)); (next => exact rfl)) | ((with_reducible refine JnI ?_ ?_); (next => exact rfl)) | ((with_reducible first | refine hN _ ?_ | refine hX _ _ ?_ | refine hR _ ?_); (try (clear hG; clear Kg)); clear hN hX hR; clear Kv) | ((conv => whnf); first | (with_reducible first | rfl | exact True.intro | intro _ | refine And.intro ?_ ?_) | ((with_reducible first | refine hN _ ?_ | refine hX _ _ ?_ | refine hR _ ?_); (try (clear hG; clear Kg)); clear hN hX hR; clear Kv) | (with_reducible first | refine BdS (fun Kv hN hX hR => ?_) | refine Stop.mk ?_ | refine Join.mk ⟨fun Kv hN hX hR => ?_, ?_⟩ | refine DrawJ.each ?_ | exact SubJ.self _) | with_reducible refine SubJ.of ?_ | (with_reducible first | refine FlS (fun Kf hF => ?_) | refine FlN ?_ | refine NdS (fun Kg hG => ?_) | (refine hF _ _ ?_; clear hF; clear Kf) | (refine hG _ _ _ _ ?_; clear hG; clear Kg))))); all_goals (conv => whnf); all_goals (repeat ((try (clear hG; clear Kg)); clear hN hX hR; clear Kv))
            all_goals first
              | exact wrapI (by omega) (by omega)
              | (rw [e2, e1])
              | rfl
              | trace_state)
         | (have h := of_decide_eq_false (show decide ((i : Int) < (w.nodes.length : Nat)) = false by with_reducible assumption)
            show w.nodes.length ≤ i
            omega)
         | rfl
         | trace_state)
    | trace_state
end Go.Proofs.YtmhieddhmebfhaaGreat

/- Contracts: queues: add, take. -/
namespace Go.Proofs.YtmhieddhmebfhaaGreat
open Go.RowKit
set_option maxRecDepth 20000

theorem k_SameMsgs : Known Tryz.prog tau 11 (S2 dMsgs dMsgs fun a b => okB (decide (a = b))) := by
  refine known2 hmix tau_ok (ctx_cons k_SameMsg ctx_nil) (fn := Tryz.f11) (by kernel_rfl) [(6, [(0, 0), (1, 0), (2, 3), (3, 4), (4, 0), (5, 0), (6, 48), (7, 64), (8, 136), (9, 256)])] (by kernel_rfl) _ _ _ fun xs ys hfit => ⟨rfl,
    [(4, invN [4, 5, 11, 12, 13, 14, 15, 16, 17, 18, 19, 20, 21, 22, 23, 24, 25, 26] (fun i => i ≤ xs.length ∧ ∀ j, j < i → xs.getD j default = ys.getD j default) (fun i => withS [(5, .int .i64 i)]) (fun i => xs.length - i))], ?_⟩
  have hlen : xs.length * 104 ≤ 140737488355328 := hfit.1.1
  clear hfit
  (repeat' (first | ((with_reducible refine BdI ?_); (first | ((with_reducible refine SqI ?_ (fun Kv hN hX hR => ?_)); (next => exact rfl)) | ((with_reducible refine JnI ?_ ?_); (next => exact rfl)) | (conv => whnf))) | (with_reducible first | refine BdS (fun Kv hN hX hR => ?_) | refine Stop.mk ?_ | refine Join.mk ⟨fun Kv hN hX hR => ?_, ?_⟩ | refine DrawJ.each ?_ | exact SubJ.self _) | with_reducible refine SubJ.of ?_ | (with_reducible first | refine FlS (fun Kf hF => ?_) | refine FlN ?_ | refine NdS (fun Kg hG => ?_) | (refine hF _ _ ?_; clear hF; clear Kf) | (refine hG _ _ _ _ ?_; clear hG; clear Kg)) | ((with_reducible refine SqI ?_ (fun Kv hN hX hR => ?_)); (next => exact rfl)) | ((with_reducible refine JnI ?_ ?_); (next => exact rfl)) | ((with_reducible first | refine hN _ ?_ | refine hX _ _ ?_ | refine hR _ ?_); (try (clear hG; clear Kg)); clear hN hX hR; clear Kv) | ((conv => whnf); first | (with_reducible first | rfl | exact True.intro | refine (fun (_ : (_ : Prop)) => ?_) | refine And.intro ?_ ?_) | ((with_reducible first | refine hN _ ?_ | refine hX _ _ ?_ | refine hR _ ?_); (try (clear hG; clear Kg)); clear hN hX hR; clear Kv) | (with_reducible first | refine BdS (fun Kv hN hX hR => ?_) | refine Stop.mk ?_ | refine Join.mk ⟨fun Kv hN hX hR => ?_, ?_⟩ | refine DrawJ.each ?_ | exact SubJ.self _) | with_reducible refine SubJ.of ?_ | (with_reducible first | refine FlS (fun Kf hF => ?_) | refine FlN ?_ | refine NdS (fun Kg hG => ?_) | (refine hF _ _ ?_; clear hF; clear Kf) | (refine hG _ _ _ _ ?_; clear hG; clear Kg))))); all_goals (conv => whnf); all_goals (repeat ((try (clear hG; clear Kg)); clear hN hX hR; clear Kv))
  all_goals first
    | (have h := of_decide_eq_false (nf (by with_reducible assumption))
       exact (decide_eq_false (fun e => h (by rw [e]))).symm)
    | (refine ⟨0, ⟨by omega, by intros; omega⟩, ?_⟩
       (repeat' (first | ((with_reducible refine BdI ?_); (first | ((with_reducible refine SqI ?_ (fun Kv hN hX hR => ?_)); (next => exact rfl)) | ((with_reducible refine JnI ?_ ?_); (next => exact rfl)) | (conv => whnf))) | (with_reducible first | refine BdS (fun Kv hN hX hR => ?_) | refine Stop.mk ?_ | refine Join.mk ⟨fun Kv hN hX hR => ?_, ?_⟩ | refine DrawJ.each ?_ | exact SubJ.self _) | with_reducible refine SubJ.of ?_ | (with_reducible first | refine FlS (fun Kf hF => ?_) | refine FlN ?_ | refine NdS (fun Kg hG => ?_) | (refine hF _ _ ?_; clear hF; clear Kf) | (refine hG _ _ _ _ ?_; clear hG; clear Kg)) | ((with_reducible refine SqI ?_ (fun Kv hN hX hR => ?_)); (next => exact rfl)) | ((with_reducible refine JnI ?_ ?_); (next => exact rfl)) | ((with_reducible first | refine hN _ ?_ | refine hX _ _ ?_ | refine hR _ ?_); (try (clear hG; clear Kg)); clear hN hX hR; clear Kv) | ((conv => whnf); first | (with_reducible first | rfl | exact True.intro | intro _ | refine And.intro ?_ ?_) | ((with_reducible first | refine hN _ ?_ | refine hX _ _ ?_ | refine hR _ ?_); (try (clear hG; clear Kg)); clear hN hX hR; clear Kv) | (with_reducible first | refine BdS (fun Kv hN hX hR => ?_) | refine Stop.mk ?_ | refine Join.mk ⟨fun Kv hN hX hR => ?_, ?_⟩ | refine DrawJ.each ?_ | exact SubJ.self _) | with_reducible refine SubJ.of ?_ | (with_reducible first | refine FlS (fun Kf hF => ?_) | refine FlN ?_ | refine NdS (fun Kg hG => ?_) | (refine hF _ _ ?_; clear hF; clear Kf) | (refine hG _ _ _ _ ?_; clear hG; clear Kg))))); all_goals (conv => whnf); all_goals (repeat ((try (clear hG; clear Kg)); clear hN hX hR; clear Kv))
       all_goals rfl)
    | (with_reducible intro i hi
       have hl : (xs.length : Int) = ys.length := of_decide_eq_true (nt (by with_reducible assumption))
       (repeat' (first | ((with_reducible refine BdI ?_); (first | ((with_reducible refine SqI ?_ (fun Kv hN hX hR => ?_)); (next => exact rfl)) | ((with_reducible refine JnI ?_ ?_); (next => exact rfl)) | (conv => whnf))) | (with_reducible first | refine BdS (fun Kv hN hX hR => ?_) | refine Stop.mk ?_ | refine Join.mk ⟨fun Kv hN hX hR => ?_, ?_⟩ | refine DrawJ.each ?_ | exact SubJ.self _) | with_reducible refine SubJ.of ?_ | (with_reducible first | refine FlS (fun Kf hF => ?_) | refine FlN ?_ | refine NdS (fun Kg hG => ?_) | (refine hF _ _ ?_; clear hF; clear Kf) | (refine hG _ _ _ _ ?_; clear hG; clear Kg)) | ((with_reducible refine SqI ?_ (fun Kv hN hX hR => ?_)); (next => exact rfl)) | ((with_reducible refine JnI ?_ ?_); (next => exact rfl)) | ((with_reducible first | refine hN _ ?_ | refine hX _ _ ?_ | refine hR _ ?_); (try (clear hG; clear Kg)); clear hN hX hR; clear Kv) | ((conv => whnf); first | (with_reducible first | rfl | exact True.intro | intro _ | refine And.intro ?_ ?_) | ((with_reducible first | refine hN _ ?_ | refine hX _ _ ?_ | refine hR _ ?_); (try (clear hG; clear Kg)); clear hN hX hR; clear Kv) | (with_reducible first | refine BdS (fun Kv hN hX hR => ?_) | refine Stop.mk ?_ | refine Join.mk ⟨fun Kv hN hX hR => ?_, ?_⟩ | refine DrawJ.each ?_ | exact SubJ.self _) | with_reducible refine SubJ.of ?_ | (with_reducible first | refine FlS (fun Kf hF => ?_) | refine FlN ?_ | refine NdS (fun Kg hG => ?_) | (refine hF _ _ ?_; clear hF; clear Kf) | (refine hG _ _ _ _ ?_; clear hG; clear Kg))))); all_goals (conv => whnf); all_goals (repeat ((try (clear hG; clear Kg)); clear hN hX hR; clear Kv))
       all_goals (try simp only [Int.toNat_natCast, etaMsg] at *)
       all_goals first
         | (have h := of_decide_eq_true (show decide ((i : Int) < (xs.length : Nat)) = true by with_reducible assumption)
            exact Ob.mk ⟨by omega, by omega⟩)
         | (have h3 := of_decide_eq_false (nf (by with_reducible assumption))
            exact (decide_eq_false (fun e => h3 (by rw [e]))).symm)
         | (have h := of_decide_eq_true (show decide ((i : Int) < (xs.length : Nat)) = true by with_reducible assumption)
            have h3 : xs.getD i default = ys.getD i default := of_decide_eq_true (nt (by with_reducible assumption))
            refine ⟨i + 1, ⟨by omega, fun j hj => ?_⟩, by show xs.length - (i + 1) < xs.length - i; omega, ?_⟩
            · rcases Nat.lt_succ_iff_lt_or_eq.1 hj with h4 | h4
              · exact hi.2 j h4
              · subst h4; exact h3
            · (repeat' (first | ((with_reducible refine BdI ?_); (first | ((with_reducible refine SqI ?_ (fun Kv hN hX hR => ?_)); (next => exact rfl)) | ((with_reducible refine JnI ?_ ?_); (next => exact rfl)) | (conv => whnf))) | (with_reducible first | refine BdS (fun Kv hN hX hR => ?_) | refine Stop.mk ?_ | refine Join.mk ⟨fun Kv hN hX hR => ?_, ?_⟩ | refine DrawJ.each ?_ | exact SubJ.self _) | with_reducible refine SubJ.of ?_ | (with_reducible first | refine FlS (fun Kf hF => ?_) | refine FlN ?_ | refine NdS (fun Kg hG => ?_) | (refine hF _ _ ?_; clear hF; clear Kf) | (refine hG _ _ _ _ ?_; clear hG; clear Kg)) | ((with_reducible refine SqI ?_ (fun Kv hN hX hR => ?_)); (next => exact rfl)) | ((with_reducible refine JnI ?_ ?_); (next => exact rfl)) | ((with_reducible first | refine hN _ ?_ | refine hX _ _ ?_ | refine hR _ ?_); (try (clear hG; clear Kg)); clear hN hX hR; clear Kv) | ((conv => whnf); first | (with_reducible first | rfl | exact True.intro | intro _ | refine And.intro ?_ ?_) | ((with_reducible first | refine hN _ ?_ | refine hX _ _ ?_ | refine hR _ ?_); (try (clear hG; clear Kg)); clear hN hX hR; clear Kv) | (with_reducible first | refine BdS (fun Kv hN hX hR => ?_) | refine Stop.mk ?_ | refine Join.mk ⟨fun Kv hN hX hR => ?_, ?_⟩ | refine DrawJ.each ?_ | exact SubJ.self _) | with_reducible refine SubJ.of ?_ | (with_reducible first | refine FlS (fun Kf hF => ?_) | refine FlN ?_ | refine NdS (fun Kg hG => ?_) | (refine hF _ _ ?_; clear hF; clear Kf) | (refine hG _ _ _ _ ?_; clear hG; clear Kg))))); all_goals (conv => whnf); all_goals (repeat ((try (clear hG; clear Kg)); clear hN hX hR; clear Kv))
              all_goals first
                | exact wrapI (by omega) (by omega)
                | rfl)
         | (have h := of_decide_eq_false (show decide ((i : Int) < (xs.length : Nat)) = false by with_reducible assumption)
            exact (decide_eq_true (eq_of_take (d := default) (by omega) fun j hj => hi.2 j (by omega))).symm)
         | skip)
    | skip
end Go.Proofs.YtmhieddhmebfhaaGreat

/- Contracts: the laws' comparisons: Peers. -/
namespace Go.Proofs.YtmhieddhmebfhaaGreat
open Go.RowKit
set_option maxRecDepth 20000

theorem k_SamePeers : Known Tryz.prog tau 89 (S2 dPeers dPeers fun a b => okB (decide (a = b))) := by
  refine known2 hmix tau_ok ctx_nil (fn := Tryz.f89) (by kernel_rfl) [(6, [(0, 0), (1, 0), (2, 3), (3, 4), (4, 0), (5, 0), (6, 48), (7, 64), (8, 136)])] (by kernel_rfl) _ _ _ fun xs ys hfit => ⟨rfl,
    [(4, invN [4, 5, 11, 12, 13, 14, 15, 16, 17, 18, 19, 20, 21, 22, 23, 24, 25] (fun i => i ≤ xs.length ∧ ∀ j, j < i → xs.getD j default = ys.getD j default) (fun i => withS [(5, .int .i64 i)]) (fun i => xs.length - i))], ?_⟩
  have hlen : xs.length * 16 ≤ 140737488355328 := hfit.1
  clear hfit
  (repeat' (first | ((with_reducible refine BdI ?_); (first | ((with_reducible refine SqI ?_ (fun Kv hN hX hR => ?_)); (next => exact rfl)) | ((with_reducible refine JnI ?_ ?_); (next => exact rfl)) | (conv => whnf))) | (with_reducible first | refine BdS (fun Kv hN hX hR => ?_) | refine Stop.mk ?_ | refine Join.mk ⟨fun Kv hN hX hR => ?_, ?_⟩ | refine DrawJ.each ?_ | exact SubJ.self _) | with_reducible refine SubJ.of ?_ | (with_reducible first | refine FlS (fun Kf hF => ?_) | refine FlN ?_ | refine NdS (fun Kg hG => ?_) | (refine hF _ _ ?_; clear hF; clear Kf) | (refine hG _ _ _ _ ?_; clear hG; clear Kg)) | ((with_reducible refine SqI ?_ (fun Kv hN hX hR => ?_)); (next => exact rfl)) | ((with_reducible refine JnI ?_ ?_); (next => exact rfl)) | ((with_reducible first | refine hN _ ?_ | refine hX _ _ ?_ | refine hR _ ?_); (try (clear hG; clear Kg)); clear hN hX hR; clear Kv) | ((conv => whnf); first | (with_reducible first | rfl | exact True.intro | refine (fun (_ : (_ : Prop)) => ?_) | refine And.intro ?_ ?_) | ((with_reducible first | refine hN _ ?_ | refine hX _ _ ?_ | refine hR _ ?_); (try (clear hG; clear Kg)); clear hN hX hR; clear Kv) | (with_reducible first | refine BdS (fun Kv hN hX hR => ?_) | refine Stop.mk ?_ | refine Join.mk ⟨fun Kv hN hX hR => ?_, ?_⟩ | refine DrawJ.each ?_ | exact SubJ.self _) | with_reducible refine SubJ.of ?_ | (with_reducible first | refine FlS (fun Kf hF => ?_) | refine FlN ?_ | refine NdS (fun Kg hG => ?_) | (refine hF _ _ ?_; clear hF; clear Kf) | (refine hG _ _ _ _ ?_; clear hG; clear Kg))))); all_goals (conv => whnf); all_goals (repeat ((try (clear hG; clear Kg)); clear hN hX hR; clear Kv))
  all_goals first
    | (have h := of_decide_eq_false (nf (by with_reducible assumption))
       exact (decide_eq_false (fun e => h (by rw [e]))).symm)
    | (refine ⟨0, ⟨by omega, by intros; omega⟩, ?_⟩
       (repeat' (first | ((with_reducible refine BdI ?_); (first | ((with_reducible refine SqI ?_ (fun Kv hN hX hR => ?_)); (next => exact rfl)) | ((with_reducible refine JnI ?_ ?_); (next => exact rfl)) | (conv => whnf))) | (with_reducible first | refine BdS (fun Kv hN hX hR => ?_) | refine Stop.mk ?_ | refine Join.mk ⟨fun Kv hN hX hR => ?_, ?_⟩ | refine DrawJ.each ?_ | exact SubJ.self _) | with_reducible refine SubJ.of ?_ | (with_reducible first | refine FlS (fun Kf hF => ?_) | refine FlN ?_ | refine NdS (fun Kg hG => ?_) | (refine hF _ _ ?_; clear hF; clear Kf) | (refine hG _ _ _ _ ?_; clear hG; clear Kg)) | ((with_reducible refine SqI ?_ (fun Kv hN hX hR => ?_)); (next => exact rfl)) | ((with_reducible refine JnI ?_ ?_); (next => exact rfl)) | ((with_reducible first | refine hN _ ?_ | refine hX _ _ ?_ | refine hR _ ?_); (try (clear hG; clear Kg)); clear hN hX hR; clear Kv) | ((conv => whnf); first | (with_reducible first | rfl | exact True.intro | intro _ | refine And.intro ?_ ?_) | ((with_reducible first | refine hN _ ?_ | refine hX _ _ ?_ | refine hR _ ?_); (try (clear hG; clear Kg)); clear hN hX hR; clear Kv) | (with_reducible first | refine BdS (fun Kv hN hX hR => ?_) | refine Stop.mk ?_ | refine Join.mk ⟨fun Kv hN hX hR => ?_, ?_⟩ | refine DrawJ.each ?_ | exact SubJ.self _) | with_reducible refine SubJ.of ?_ | (with_reducible first | refine FlS (fun Kf hF => ?_) | refine FlN ?_ | refine NdS (fun Kg hG => ?_) | (refine hF _ _ ?_; clear hF; clear Kf) | (refine hG _ _ _ _ ?_; clear hG; clear Kg))))); all_goals (conv => whnf); all_goals (repeat ((try (clear hG; clear Kg)); clear hN hX hR; clear Kv))
       all_goals rfl)
    | (with_reducible intro i hi
       have hl : (xs.length : Int) = ys.length := of_decide_eq_true (nt (by with_reducible assumption))
       (repeat' (first | ((with_reducible refine BdI ?_); (first | ((with_reducible refine SqI ?_ (fun Kv hN hX hR => ?_)); (next => exact rfl)) | ((with_reducible refine JnI ?_ ?_); (next => exact rfl)) | (conv => whnf))) | (with_reducible first | refine BdS (fun Kv hN hX hR => ?_) | refine Stop.mk ?_ | refine Join.mk ⟨fun Kv hN hX hR => ?_, ?_⟩ | refine DrawJ.each ?_ | exact SubJ.self _) | with_reducible refine SubJ.of ?_ | (with_reducible first | refine FlS (fun Kf hF => ?_) | refine FlN ?_ | refine NdS (fun Kg hG => ?_) | (refine hF _ _ ?_; clear hF; clear Kf) | (refine hG _ _ _ _ ?_; clear hG; clear Kg)) | ((with_reducible refine SqI ?_ (fun Kv hN hX hR => ?_)); (next => exact rfl)) | ((with_reducible refine JnI ?_ ?_); (next => exact rfl)) | ((with_reducible first | refine hN _ ?_ | refine hX _ _ ?_ | refine hR _ ?_); (try (clear hG; clear Kg)); clear hN hX hR; clear Kv) | ((conv => whnf); first | (with_reducible first | rfl | exact True.intro | intro _ | refine And.intro ?_ ?_) | ((with_reducible first | refine hN _ ?_ | refine hX _ _ ?_ | refine hR _ ?_); (try (clear hG; clear Kg)); clear hN hX hR; clear Kv) | (with_reducible first | refine BdS (fun Kv hN hX hR => ?_) | refine Stop.mk ?_ | refine Join.mk ⟨fun Kv hN hX hR => ?_, ?_⟩ | refine DrawJ.each ?_ | exact SubJ.self _) | with_reducible refine SubJ.of ?_ | (with_reducible first | refine FlS (fun Kf hF => ?_) | refine FlN ?_ | refine NdS (fun Kg hG => ?_) | (refine hF _ _ ?_; clear hF; clear Kf) | (refine hG _ _ _ _ ?_; clear hG; clear Kg))))); all_goals (conv => whnf); all_goals (repeat ((try (clear hG; clear Kg)); clear hN hX hR; clear Kv))
       all_goals (try simp only [Int.toNat_natCast] at *)
       all_goals first
         | (have h := of_decide_eq_true (show decide ((i : Int) < (xs.length : Nat)) = true by with_reducible assumption)
            exact Ob.mk ⟨by omega, by omega⟩)
         | (have h := of_decide_eq_true (show decide ((i : Int) < (xs.length : Nat)) = true by with_reducible assumption)
            have h3 : ¬ (xs.getD i default = ys.getD i default) := by
              intro e
              simp_all
              done
            exact (decide_eq_false (fun e => h3 (by rw [e]))).symm)
         | (have h := of_decide_eq_true (show decide ((i : Int) < (xs.length : Nat)) = true by with_reducible assumption)
            have h3 : xs.getD i default = ys.getD i default := by
              simp only [Bool.not_eq_false', Bool.and_eq_true, decide_eq_true_eq] at *
              first
                | assumption
                | (rename_i h4; cases hx : xs.getD i default; cases hy : ys.getD i default; simp_all)
            refine ⟨i + 1, ⟨by omega, fun j hj => ?_⟩, by show xs.length - (i + 1) < xs.length - i; omega, ?_⟩
            · rcases Nat.lt_succ_iff_lt_or_eq.1 hj with h4 | h4
              · exact hi.2 j h4
              · subst h4; exact h3
            · (repeat' (first | ((with_reducible refine BdI ?_); (first | ((with_reducible refine SqI ?_ (fun Kv hN hX hR => ?_)); (next => exact rfl)) | ((with_reducible refine JnI ?_ ?_); (next => exact rfl)) | (conv => whnf))) | (with_reducible first | refine BdS (fun Kv hN hX hR => ?_) | refine Stop.mk ?_ | refine Join.mk ⟨fun Kv hN hX hR => ?_, ?_⟩ | refine DrawJ.each ?_ | exact SubJ.self _) | with_reducible refine SubJ.of ?_ | (with_reducible first | refine FlS (fun Kf hF => ?_) | refine FlN ?_ | refine NdS (fun Kg hG => ?_) | (refine hF _ _ ?_; clear hF; clear Kf) | (refine hG _ _ _ _ ?_; clear hG; clear Kg)) | ((with_reducible refine SqI ?_ (fun Kv hN hX hR => ?_)); (next => exact rfl)) | ((with_reducible refine JnI ?_ ?_); (next => exact rfl)) | ((with_reducible first | refine hN _ ?_ | refine hX _ _ ?_ | refine hR _ ?_); (try (clear hG; clear Kg)); clear hN hX hR; clear Kv) | ((conv => whnf); first | (with_reducible first | rfl | exact True.intro | intro _ | refine And.intro ?_ ?_) | ((with_reducible first | refine hN _ ?_ | refine hX _ _ ?_ | refine hR _ ?_); (try (clear hG; clear Kg)); clear hN hX hR; clear Kv) | (with_reducible first | refine BdS (fun Kv hN hX hR => ?_) | refine Stop.mk ?_ | refine Join.mk ⟨fun Kv hN hX hR => ?_, ?_⟩ | refine DrawJ.each ?_ | exact SubJ.self _) | with_reducible refine SubJ.of ?_ | (with_reducible first | refine FlS (fun Kf hF => ?_) | refine FlN ?_ | refine NdS (fun Kg hG => ?_) | (refine hF _ _ ?_; clear hF; clear Kf) | (refine hG _ _ _ _ ?_; clear hG; clear Kg))))); all_goals (conv => whnf); all_goals (repeat ((try (clear hG; clear Kg)); clear hN hX hR; clear Kv))
              all_goals first
                | exact wrapI (by omega) (by omega)
                | rfl)
         | (have h := of_decide_eq_false (show decide ((i : Int) < (xs.length : Nat)) = false by with_reducible assumption)
            exact (decide_eq_true (eq_of_take (d := default) (by omega) fun j hj => hi.2 j (by omega))).symm)
         | trace_state)
    | trace_state
end Go.Proofs.YtmhieddhmebfhaaGreat

/- Contracts: the laws' comparisons: Items. -/
namespace Go.Proofs.YtmhieddhmebfhaaGreat
open Go.RowKit
set_option maxRecDepth 20000

theorem k_SameItems : Known Tryz.prog tau 43 (S2 dItems dItems fun a b => okB (decide (a = b))) := by
  refine known2 hmix tau_ok ctx_nil (fn := Tryz.f43) (by kernel_rfl) [(6, [(0, 0), (1, 0), (2, 3), (3, 4), (4, 0), (5, 0), (6, 48), (7, 64), (8, 136)])] (by kernel_rfl) _ _ _ fun xs ys hfit => ⟨rfl,
    [(4, invN [4, 5, 11, 12, 13, 14, 15, 16, 17, 18, 19, 20, 21, 22, 23, 24, 25] (fun i => i ≤ xs.length ∧ ∀ j, j < i → xs.getD j default = ys.getD j default) (fun i => withS [(5, .int .i64 i)]) (fun i => xs.length - i))], ?_⟩
  have hlen : xs.length * 40 ≤ 140737488355328 := hfit.1
  clear hfit
  (repeat' (first | ((with_reducible refine BdI ?_); (first | ((with_reducible refine SqI ?_ (fun Kv hN hX hR => ?_)); (next => exact rfl)) | ((with_reducible refine JnI ?_ ?_); (next => exact rfl)) | (conv => whnf))) | (with_reducible first | refine BdS (fun Kv hN hX hR => ?_) | refine Stop.mk ?_ | refine Join.mk ⟨fun Kv hN hX hR => ?_, ?_⟩ | refine DrawJ.each ?_ | exact SubJ.self _) | with_reducible refine SubJ.of ?_ | (with_reducible first | refine FlS (fun Kf hF => ?_) | refine FlN ?_ | refine NdS (fun Kg hG => ?_) | (refine hF _ _ ?_; clear hF; clear Kf) | (refine hG _ _ _ _ ?_; clear hG; clear Kg)) | ((with_reducible refine SqI ?_ (fun Kv hN hX hR => ?_)); (next => exact rfl)) | ((with_reducible refine JnI ?_ ?_); (next => exact rfl)) | ((with_reducible first | refine hN _ ?_ | refine hX _ _ ?_ | refine hR _ ?_); (try (clear hG; clear Kg)); clear hN hX hR; clear Kv) | ((conv => whnf); first | (with_reducible first | rfl | exact True.intro | refine (fun (_ : (_ : Prop)) => ?_) | refine And.intro ?_ ?_) | ((with_reducible first | refine hN _ ?_ | refine hX _ _ ?_ | refine hR _ ?_); (try (clear hG; clear Kg)); clear hN hX hR; clear Kv) | (with_reducible first | refine BdS (fun Kv hN hX hR => ?_) | refine Stop.mk ?_ | refine Join.mk ⟨fun Kv hN hX hR => ?_, ?_⟩ | refine DrawJ.each ?_ | exact SubJ.self _) | with_reducible refine SubJ.of ?_ | (with_reducible first | refine FlS (fun Kf hF => ?_) | refine FlN ?_ | refine NdS (fun Kg hG => ?_) | (refine hF _ _ ?_; clear hF; clear Kf) | (refine hG _ _ _ _ ?_; clear hG; clear Kg))))); all_goals (conv => whnf); all_goals (repeat ((try (clear hG; clear Kg)); clear hN hX hR; clear Kv))
  all_goals first
    | (have h := of_decide_eq_false (nf (by with_reducible assumption))
       exact (decide_eq_false (fun e => h (by rw [e]))).symm)
    | (refine ⟨0, ⟨by omega, by intros; omega⟩, ?_⟩
       (repeat' (first | ((with_reducible refine BdI ?_); (first | ((with_reducible refine SqI ?_ (fun Kv hN hX hR => ?_)); (next => exact rfl)) | ((with_reducible refine JnI ?_ ?_); (next => exact rfl)) | (conv => whnf))) | (with_reducible first | refine BdS (fun Kv hN hX hR => ?_) | refine Stop.mk ?_ | refine Join.mk ⟨fun Kv hN hX hR => ?_, ?_⟩ | refine DrawJ.each ?_ | exact SubJ.self _) | with_reducible refine SubJ.of ?_ | (with_reducible first | refine FlS (fun Kf hF => ?_) | refine FlN ?_ | refine NdS (fun Kg hG => ?_) | (refine hF _ _ ?_; clear hF; clear Kf) | (refine hG _ _ _ _ ?_; clear hG; clear Kg)) | ((with_reducible refine SqI ?_ (fun Kv hN hX hR => ?_)); (next => exact rfl)) | ((with_reducible refine JnI ?_ ?_); (next => exact rfl)) | ((with_reducible first | refine hN _ ?_ | refine hX _ _ ?_ | refine hR _ ?_); (try (clear hG; clear Kg)); clear hN hX hR; clear Kv) | ((conv => whnf); first | (with_reducible first | rfl | exact True.intro | intro _ | refine And.intro ?_ ?_) | ((with_reducible first | refine hN _ ?_ | refine hX _ _ ?_ | refine hR _ ?_); (try (clear hG; clear Kg)); clear hN hX hR; clear Kv) | (with_reducible first | refine BdS (fun Kv hN hX hR => ?_) | refine Stop.mk ?_ | refine Join.mk ⟨fun Kv hN hX hR => ?_, ?_⟩ | refine DrawJ.each ?_ | exact SubJ.self _) | with_reducible refine SubJ.of ?_ | (with_reducible first | refine FlS (fun Kf hF => ?_) | refine FlN ?_ | refine NdS (fun Kg hG => ?_) | (refine hF _ _ ?_; clear hF; clear Kf) | (refine hG _ _ _ _ ?_; clear hG; clear Kg))))); all_goals (conv => whnf); all_goals (repeat ((try (clear hG; clear Kg)); clear hN hX hR; clear Kv))
       all_goals rfl)
    | (with_reducible intro i hi
       have hl : (xs.length : Int) = ys.length := of_decide_eq_true (nt (by with_reducible assumption))
       (repeat' (first | ((with_reducible refine BdI ?_); (first | ((with_reducible refine SqI ?_ (fun Kv hN hX hR => ?_)); (next => exact rfl)) | ((with_reducible refine JnI ?_ ?_); (next => exact rfl)) | (conv => whnf))) | (with_reducible first | refine BdS (fun Kv hN hX hR => ?_) | refine Stop.mk ?_ | refine Join.mk ⟨fun Kv hN hX hR => ?_, ?_⟩ | refine DrawJ.each ?_ | exact SubJ.self _) | with_reducible refine SubJ.of ?_ | (with_reducible first | refine FlS (fun Kf hF => ?_) | refine FlN ?_ | refine NdS (fun Kg hG => ?_) | (refine hF _ _ ?_; clear hF; clear Kf) | (refine hG _ _ _ _ ?_; clear hG; clear Kg)) | ((with_reducible refine SqI ?_ (fun Kv hN hX hR => ?_)); (next => exact rfl)) | ((with_reducible refine JnI ?_ ?_); (next => exact rfl)) | ((with_reducible first | refine hN _ ?_ | refine hX _ _ ?_ | refine hR _ ?_); (try (clear hG; clear Kg)); clear hN hX hR; clear Kv) | ((conv => whnf); first | (with_reducible first | rfl | exact True.intro | intro _ | refine And.intro ?_ ?_) | ((with_reducible first | refine hN _ ?_ | refine hX _ _ ?_ | refine hR _ ?_); (try (clear hG; clear Kg)); clear hN hX hR; clear Kv) | (with_reducible first | refine BdS (fun Kv hN hX hR => ?_) | refine Stop.mk ?_ | refine Join.mk ⟨fun Kv hN hX hR => ?_, ?_⟩ | refine DrawJ.each ?_ | exact SubJ.self _) | with_reducible refine SubJ.of ?_ | (with_reducible first | refine FlS (fun Kf hF => ?_) | refine FlN ?_ | refine NdS (fun Kg hG => ?_) | (refine hF _ _ ?_; clear hF; clear Kf) | (refine hG _ _ _ _ ?_; clear hG; clear Kg))))); all_goals (conv => whnf); all_goals (repeat ((try (clear hG; clear Kg)); clear hN hX hR; clear Kv))
       all_goals (try simp only [Int.toNat_natCast] at *)
       all_goals first
         | (have h := of_decide_eq_true (show decide ((i : Int) < (xs.length : Nat)) = true by with_reducible assumption)
            exact Ob.mk ⟨by omega, by omega⟩)
         | (have h := of_decide_eq_true (show decide ((i : Int) < (xs.length : Nat)) = true by with_reducible assumption)
            have h3 : ¬ (xs.getD i default = ys.getD i default) := by
              intro e
              simp_all
              done
            exact (decide_eq_false (fun e => h3 (by rw [e]))).symm)
         | (have h := of_decide_eq_true (show decide ((i : Int) < (xs.length : Nat)) = true by with_reducible assumption)
            have h3 : xs.getD i default = ys.getD i default := by
              have key : ∀ p q : GItem, (!(decide (p.key = q.key) && (decide (p.ver.count = q.ver.count) && (decide (p.ver.writer = q.ver.writer) && (decide (p.value = q.value) && p.gone == q.gone))))) = false → p = q := by
                rintro ⟨_, ⟨_, _⟩, _, _⟩ ⟨_, ⟨_, _⟩, _, _⟩ h
                simp_all
              exact key _ _ (by with_reducible assumption)
            refine ⟨i + 1, ⟨by omega, fun j hj => ?_⟩, by show xs.length - (i + 1) < xs.length - i; omega, ?_⟩
            · rcases Nat.lt_succ_iff_lt_or_eq.1 hj with h4 | h4
              · exact hi.2 j h4
              · subst h4; exact h3
            · (repeat' (first | ((with_reducible refine BdI ?_); (first | ((with_reducible refine SqI ?_ (fun Kv hN hX hR => ?_)); (next => exact rfl)) | ((with_reducible refine JnI ?_ ?_); (next => exact rfl)) | (conv => whnf))) | (with_reducible first | refine BdS (fun Kv hN hX hR => ?_) | refine Stop.mk ?_ | refine Join.mk ⟨fun Kv hN hX hR => ?_, ?_⟩ | refine DrawJ.each ?_ | exact SubJ.self _) | with_reducible refine SubJ.of ?_ | (with_reducible first | refine FlS (fun Kf hF => ?_) | refine FlN ?_ | refine NdS (fun Kg hG => ?_) | (refine hF _ _ ?_; clear hF; clear Kf) | (refine hG _ _ _ _ ?_; clear hG; clear Kg)) | ((with_reducible refine SqI ?_ (fun Kv hN hX hR => ?_)); (next => exact rfl)) | ((with_reducible refine JnI ?_ ?_); (next => exact rfl)) | ((with_reducible first | refine hN _ ?_ | refine hX _ _ ?_ | refine hR _ ?_); (try (clear hG; clear Kg)); clear hN hX hR; clear Kv) | ((conv => whnf); first | (with_reducible first | rfl | exact True.intro | intro _ | refine And.intro ?_ ?_) | ((with_reducible first | refine hN _ ?_ | refine hX _ _ ?_ | refine hR _ ?_); (try (clear hG; clear Kg)); clear hN hX hR; clear Kv) | (with_reducible first | refine BdS (fun Kv hN hX hR => ?_) | refine Stop.mk ?_ | refine Join.mk ⟨fun Kv hN hX hR => ?_, ?_⟩ | refine DrawJ.each ?_ | exact SubJ.self _) | with_reducible refine SubJ.of ?_ | (with_reducible first | refine FlS (fun Kf hF => ?_) | refine FlN ?_ | refine NdS (fun Kg hG => ?_) | (refine hF _ _ ?_; clear hF; clear Kf) | (refine hG _ _ _ _ ?_; clear hG; clear Kg))))); all_goals (conv => whnf); all_goals (repeat ((try (clear hG; clear Kg)); clear hN hX hR; clear Kv))
              all_goals first
                | exact wrapI (by omega) (by omega)
                | rfl)
         | (have h := of_decide_eq_false (show decide ((i : Int) < (xs.length : Nat)) = false by with_reducible assumption)
            exact (decide_eq_true (eq_of_take (d := default) (by omega) fun j hj => hi.2 j (by omega))).symm)
         | trace_state)
    | trace_state
end Go.Proofs.YtmhieddhmebfhaaGreat

/- Contracts: the laws' comparisons: Tolds. -/
namespace Go.Proofs.YtmhieddhmebfhaaGreat
open Go.RowKit
set_option maxRecDepth 20000

theorem k_SameTolds : Known Tryz.prog tau 44 (S2 dTolds dTolds fun a b => okB (decide (a = b))) := by
  refine known2 hmix tau_ok ctx_nil (fn := Tryz.f44) (by kernel_rfl) [(6, [(0, 0), (1, 0), (2, 3), (3, 4), (4, 0), (5, 0), (6, 48), (7, 64), (8, 136)])] (by kernel_rfl) _ _ _ fun xs ys hfit => ⟨rfl,
    [(4, invN [4, 5, 11, 12, 13, 14, 15, 16, 17, 18, 19, 20, 21, 22, 23, 24, 25] (fun i => i ≤ xs.length ∧ ∀ j, j < i → xs.getD j default = ys.getD j default) (fun i => withS [(5, .int .i64 i)]) (fun i => xs.length - i))], ?_⟩
  have hlen : xs.length * 24 ≤ 140737488355328 := hfit.1
  clear hfit
  (repeat' (first | ((with_reducible refine BdI ?_); (first | ((with_reducible refine SqI ?_ (fun Kv hN hX hR => ?_)); (next => exact rfl)) | ((with_reducible refine JnI ?_ ?_); (next => exact rfl)) | (conv => whnf))) | (with_reducible first | refine BdS (fun Kv hN hX hR => ?_) | refine Stop.mk ?_ | refine Join.mk ⟨fun Kv hN hX hR => ?_, ?_⟩ | refine DrawJ.each ?_ | exact SubJ.self _) | with_reducible refine SubJ.of ?_ | (with_reducible first | refine FlS (fun Kf hF => ?_) | refine FlN ?_ | refine NdS (fun Kg hG => ?_) | (refine hF _ _ ?_; clear hF; clear Kf) | (refine hG _ _ _ _ ?_; clear hG; clear Kg)) | ((with_reducible refine SqI ?_ (fun Kv hN hX hR => ?_)); (next => exact rfl)) | ((with_reducible refine JnI ?_ ?_); (next => exact rfl)) | ((with_reducible first | refine hN _ ?_ | refine hX _ _ ?_ | refine hR _ ?_); (try (clear hG; clear Kg)); clear hN hX hR; clear Kv) | ((conv => whnf); first | (with_reducible first | rfl | exact True.intro | refine (fun (_ : (_ : Prop)) => ?_) | refine And.intro ?_ ?_) | ((with_reducible first | refine hN _ ?_ | refine hX _ _ ?_ | refine hR _ ?_); (try (clear hG; clear Kg)); clear hN hX hR; clear Kv) | (with_reducible first | refine BdS (fun Kv hN hX hR => ?_) | refine Stop.mk ?_ | refine Join.mk ⟨fun Kv hN hX hR => ?_, ?_⟩ | refine DrawJ.each ?_ | exact SubJ.self _) | with_reducible refine SubJ.of ?_ | (with_reducible first | refine FlS (fun Kf hF => ?_) | refine FlN ?_ | refine NdS (fun Kg hG => ?_) | (refine hF _ _ ?_; clear hF; clear Kf) | (refine hG _ _ _ _ ?_; clear hG; clear Kg))))); all_goals (conv => whnf); all_goals (repeat ((try (clear hG; clear Kg)); clear hN hX hR; clear Kv))
  all_goals first
    | (have h := of_decide_eq_false (nf (by with_reducible assumption))
       exact (decide_eq_false (fun e => h (by rw [e]))).symm)
    | (refine ⟨0, ⟨by omega, by intros; omega⟩, ?_⟩
       (repeat' (first | ((with_reducible refine BdI ?_); (first | ((with_reducible refine SqI ?_ (fun Kv hN hX hR => ?_)); (next => exact rfl)) | ((with_reducible refine JnI ?_ ?_); (next => exact rfl)) | (conv => whnf))) | (with_reducible first | refine BdS (fun Kv hN hX hR => ?_) | refine Stop.mk ?_ | refine Join.mk ⟨fun Kv hN hX hR => ?_, ?_⟩ | refine DrawJ.each ?_ | exact SubJ.self _) | with_reducible refine SubJ.of ?_ | (with_reducible first | refine FlS (fun Kf hF => ?_) | refine FlN ?_ | refine NdS (fun Kg hG => ?_) | (refine hF _ _ ?_; clear hF; clear Kf) | (refine hG _ _ _ _ ?_; clear hG; clear Kg)) | ((with_reducible refine SqI ?_ (fun Kv hN hX hR => ?_)); (next => exact rfl)) | ((with_reducible refine JnI ?_ ?_); (next => exact rfl)) | ((with_reducible first | refine hN _ ?_ | refine hX _ _ ?_ | refine hR _ ?_); (try (clear hG; clear Kg)); clear hN hX hR; clear Kv) | ((conv => whnf); first | (with_reducible first | rfl | exact True.intro | intro _ | refine And.intro ?_ ?_) | ((with_reducible first | refine hN _ ?_ | refine hX _ _ ?_ | refine hR _ ?_); (try (clear hG; clear Kg)); clear hN hX hR; clear Kv) | (with_reducible first | refine BdS (fun Kv hN hX hR => ?_) | refine Stop.mk ?_ | refine Join.mk ⟨fun Kv hN hX hR => ?_, ?_⟩ | refine DrawJ.each ?_ | exact SubJ.self _) | with_reducible refine SubJ.of ?_ | (with_reducible first | refine FlS (fun Kf hF => ?_) | refine FlN ?_ | refine NdS (fun Kg hG => ?_) | (refine hF _ _ ?_; clear hF; clear Kf) | (refine hG _ _ _ _ ?_; clear hG; clear Kg))))); all_goals (conv => whnf); all_goals (repeat ((try (clear hG; clear Kg)); clear hN hX hR; clear Kv))
       all_goals rfl)
    | (with_reducible intro i hi
       have hl : (xs.length : Int) = ys.length := of_decide_eq_true (nt (by with_reducible assumption))
       (repeat' (first | ((with_reducible refine BdI ?_); (first | ((with_reducible refine SqI ?_ (fun Kv hN hX hR => ?_)); (next => exact rfl)) | ((with_reducible refine JnI ?_ ?_); (next => exact rfl)) | (conv => whnf))) | (with_reducible first | refine BdS (fun Kv hN hX hR => ?_) | refine Stop.mk ?_ | refine Join.mk ⟨fun Kv hN hX hR => ?_, ?_⟩ | refine DrawJ.each ?_ | exact SubJ.self _) | with_reducible refine SubJ.of ?_ | (with_reducible first | refine FlS (fun Kf hF => ?_) | refine FlN ?_ | refine NdS (fun Kg hG => ?_) | (refine hF _ _ ?_; clear hF; clear Kf) | (refine hG _ _ _ _ ?_; clear hG; clear Kg)) | ((with_reducible refine SqI ?_ (fun Kv hN hX hR => ?_)); (next => exact rfl)) | ((with_reducible refine JnI ?_ ?_); (next => exact rfl)) | ((with_reducible first | refine hN _ ?_ | refine hX _ _ ?_ | refine hR _ ?_); (try (clear hG; clear Kg)); clear hN hX hR; clear Kv) | ((conv => whnf); first | (with_reducible first | rfl | exact True.intro | intro _ | refine And.intro ?_ ?_) | ((with_reducible first | refine hN _ ?_ | refine hX _ _ ?_ | refine hR _ ?_); (try (clear hG; clear Kg)); clear hN hX hR; clear Kv) | (with_reducible first | refine BdS (fun Kv hN hX hR => ?_) | refine Stop.mk ?_ | refine Join.mk ⟨fun Kv hN hX hR => ?_, ?_⟩ | refine DrawJ.each ?_ | exact SubJ.self _) | with_reducible refine SubJ.of ?_ | (with_reducible first | refine FlS (fun Kf hF => ?_) | refine FlN ?_ | refine NdS (fun Kg hG => ?_) | (refine hF _ _ ?_; clear hF; clear Kf) | (refine hG _ _ _ _ ?_; clear hG; clear Kg))))); all_goals (conv => whnf); all_goals (repeat ((try (clear hG; clear Kg)); clear hN hX hR; clear Kv))
       all_goals (try simp only [Int.toNat_natCast] at *)
       all_goals first
         | (have h := of_decide_eq_true (show decide ((i : Int) < (xs.length : Nat)) = true by with_reducible assumption)
            exact Ob.mk ⟨by omega, by omega⟩)
         | (have h := of_decide_eq_true (show decide ((i : Int) < (xs.length : Nat)) = true by with_reducible assumption)
            have h3 : ¬ (xs.getD i default = ys.getD i default) := by
              intro e
              simp_all
              done
            exact (decide_eq_false (fun e => h3 (by rw [e]))).symm)
         | (have h := of_decide_eq_true (show decide ((i : Int) < (xs.length : Nat)) = true by with_reducible assumption)
            have h3 : xs.getD i default = ys.getD i default := by
              simp only [Bool.not_eq_false', Bool.and_eq_true, decide_eq_true_eq] at *
              first
                | assumption
                | (rename_i h4; cases hx : xs.getD i default; cases hy : ys.getD i default; simp_all)
            refine ⟨i + 1, ⟨by omega, fun j hj => ?_⟩, by show xs.length - (i + 1) < xs.length - i; omega, ?_⟩
            · rcases Nat.lt_succ_iff_lt_or_eq.1 hj with h4 | h4
              · exact hi.2 j h4
              · subst h4; exact h3
            · (repeat' (first | ((with_reducible refine BdI ?_); (first | ((with_reducible refine SqI ?_ (fun Kv hN hX hR => ?_)); (next => exact rfl)) | ((with_reducible refine JnI ?_ ?_); (next => exact rfl)) | (conv => whnf))) | (with_reducible first | refine BdS (fun Kv hN hX hR => ?_) | refine Stop.mk ?_ | refine Join.mk ⟨fun Kv hN hX hR => ?_, ?_⟩ | refine DrawJ.each ?_ | exact SubJ.self _) | with_reducible refine SubJ.of ?_ | (with_reducible first | refine FlS (fun Kf hF => ?_) | refine FlN ?_ | refine NdS (fun Kg hG => ?_) | (refine hF _ _ ?_; clear hF; clear Kf) | (refine hG _ _ _ _ ?_; clear hG; clear Kg)) | ((with_reducible refine SqI ?_ (fun Kv hN hX hR => ?_)); (next => exact rfl)) | ((with_reducible refine JnI ?_ ?_); (next => exact rfl)) | ((with_reducible first | refine hN _ ?_ | refine hX _ _ ?_ | refine hR _ ?_); (try (clear hG; clear Kg)); clear hN hX hR; clear Kv) | ((conv => whnf); first | (with_reducible first | rfl | exact True.intro | intro _ | refine And.intro ?_ ?_) | ((with_reducible first | refine hN _ ?_ | refine hX _ _ ?_ | refine hR _ ?_); (try (clear hG; clear Kg)); clear hN hX hR; clear Kv) | (with_reducible first | refine BdS (fun Kv hN hX hR => ?_) | refine Stop.mk ?_ | refine Join.mk ⟨fun Kv hN hX hR => ?_, ?_⟩ | refine DrawJ.each ?_ | exact SubJ.self _) | with_reducible refine SubJ.of ?_ | (with_reducible first | refine FlS (fun Kf hF => ?_) | refine FlN ?_ | refine NdS (fun Kg hG => ?_) | (refine hF _ _ ?_; clear hF; clear Kf) | (refine hG _ _ _ _ ?_; clear hG; clear Kg))))); all_goals (conv => whnf); all_goals (repeat ((try (clear hG; clear Kg)); clear hN hX hR; clear Kv))
              all_goals first
                | exact wrapI (by omega) (by omega)
                | rfl)
         | (have h := of_decide_eq_false (show decide ((i : Int) < (xs.length : Nat)) = false by with_reducible assumption)
            exact (decide_eq_true (eq_of_take (d := default) (by omega) fun j hj => hi.2 j (by omega))).symm)
         | trace_state)
    | trace_state
end Go.Proofs.YtmhieddhmebfhaaGreat

/- Chapter 16: the laws' functions. -/
namespace Go.Proofs.YtmhieddhmebfhaaGreat
open Go.RowKit
set_option maxRecDepth 20000

theorem k_SameView : Known Tryz.prog tau 42 (S2 dView dView fun a b => okB (decide (a = b))) := by
  refine known2 hmix tau_ok (ctx_cons k_SamePeers (ctx_cons k_SameInts ctx_nil)) (fn := Tryz.f42) (by kernel_rfl) [] (by kernel_rfl) _ _ _ fun a b hfit => ⟨rfl, [], ?_⟩
  clear hfit
  (repeat' (first | ((with_reducible refine BdI ?_); (first | ((with_reducible refine SqI ?_ (fun Kv hN hX hR => ?_)); (next => exact rfl)) | ((with_reducible refine JnI ?_ ?_); (next => exact rfl)) | (conv => whnf))) | (with_reducible first | refine BdS (fun Kv hN hX hR => ?_) | refine Stop.mk ?_ | refine Join.mk ⟨fun Kv hN hX hR => ?_, ?_⟩ | refine DrawJ.each ?_ | exact SubJ.self _) | with_reducible refine SubJ.of ?_ | (with_reducible first | refine FlS (fun Kf hF => ?_) | refine FlN ?_ | refine NdS (fun Kg hG => ?_) | (refine hF _ _ ?_; clear hF; clear Kf) | (refine hG _ _ _ _ ?_; clear hG; clear Kg)) | ((with_reducible refine SqI ?_ (fun Kv hN hX hR => ?_)); (next => exact rfl)) | ((with_reducible refine JnI ?_ ?_); (next => exact rfl)) | ((with_reducible first | refine hN _ ?_ | refine hX _ _ ?_ | refine hR _ ?_); (try (clear hG; clear Kg)); clear hN hX hR; clear Kv) | ((conv => whnf); first | (with_reducible first | rfl | exact True.intro | intro _ | refine And.intro ?_ ?_) | ((with_reducible first | refine hN _ ?_ | refine hX _ _ ?_ | refine hR _ ?_); (try (clear hG; clear Kg)); clear hN hX hR; clear Kv) | (with_reducible first | refine BdS (fun Kv hN hX hR => ?_) | refine Stop.mk ?_ | refine Join.mk ⟨fun Kv hN hX hR => ?_, ?_⟩ | refine DrawJ.each ?_ | exact SubJ.self _) | with_reducible refine SubJ.of ?_ | (with_reducible first | refine FlS (fun Kf hF => ?_) | refine FlN ?_ | refine NdS (fun Kg hG => ?_) | (refine hF _ _ ?_; clear hF; clear Kf) | (refine hG _ _ _ _ ?_; clear hG; clear Kg))))); all_goals (conv => whnf); all_goals (repeat ((try (clear hG; clear Kg)); clear hN hX hR; clear Kv))
  all_goals (cases a; cases b; simp_all)
theorem k_SameNode : Known Tryz.prog tau 10 (S2 dNode dNode fun a b => okB (decide (a = b))) := by
  refine known2 hmix tau_ok (ctx_cons k_SameView (ctx_cons k_SameItems (ctx_cons k_SameTolds ctx_nil))) (fn := Tryz.f10) (by kernel_rfl) [] (by kernel_rfl) _ _ _ fun a b hfit => ⟨rfl, [], ?_⟩
  clear hfit
  (repeat' (first | ((with_reducible refine BdI ?_); (first | ((with_reducible refine SqI ?_ (fun Kv hN hX hR => ?_)); (next => exact rfl)) | ((with_reducible refine JnI ?_ ?_); (next => exact rfl)) | (conv => whnf))) | (with_reducible first | refine BdS (fun Kv hN hX hR => ?_) | refine Stop.mk ?_ | refine Join.mk ⟨fun Kv hN hX hR => ?_, ?_⟩ | refine DrawJ.each ?_ | exact SubJ.self _) | with_reducible refine SubJ.of ?_ | (with_reducible first | refine FlS (fun Kf hF => ?_) | refine FlN ?_ | refine NdS (fun Kg hG => ?_) | (refine hF _ _ ?_; clear hF; clear Kf) | (refine hG _ _ _ _ ?_; clear hG; clear Kg)) | ((with_reducible refine SqI ?_ (fun Kv hN hX hR => ?_)); (next => exact rfl)) | ((with_reducible refine JnI ?_ ?_); (next => exact rfl)) | ((with_reducible first | refine hN _ ?_ | refine hX _ _ ?_ | refine hR _ ?_); (try (clear hG; clear Kg)); clear hN hX hR; clear Kv) | ((conv => whnf); first | (with_reducible first | rfl | exact True.intro | intro _ | refine And.intro ?_ ?_) | ((with_reducible first | refine hN _ ?_ | refine hX _ _ ?_ | refine hR _ ?_); (try (clear hG; clear Kg)); clear hN hX hR; clear Kv) | (with_reducible first | refine BdS (fun Kv hN hX hR => ?_) | refine Stop.mk ?_ | refine Join.mk ⟨fun Kv hN hX hR => ?_, ?_⟩ | refine DrawJ.each ?_ | exact SubJ.self _) | with_reducible refine SubJ.of ?_ | (with_reducible first | refine FlS (fun Kf hF => ?_) | refine FlN ?_ | refine NdS (fun Kg hG => ?_) | (refine hF _ _ ?_; clear hF; clear Kf) | (refine hG _ _ _ _ ?_; clear hG; clear Kg))))); all_goals (conv => whnf); all_goals (repeat ((try (clear hG; clear Kg)); clear hN hX hR; clear Kv))
  all_goals (rcases a with ⟨a1, ⟨a2, a3, a4⟩, a5, a6⟩; rcases b with ⟨b1, ⟨b2, b3, b4⟩, b5, b6⟩; simp_all)
end Go.Proofs.YtmhieddhmebfhaaGreat

/- Contracts: the laws' comparisons: Cuts. -/
namespace Go.Proofs.YtmhieddhmebfhaaGreat
open Go.RowKit
set_option maxRecDepth 20000

theorem k_SameCuts : Known Tryz.prog tau 61 (S2 dCuts dCuts fun a b => okB (decide (a = b))) := by
  refine known2 hmix tau_ok ctx_nil (fn := Tryz.f61) (by kernel_rfl) [(6, [(0, 0), (1, 0), (2, 3), (3, 4), (4, 0), (5, 0), (6, 48), (7, 64), (8, 136)])] (by kernel_rfl) _ _ _ fun xs ys hfit => ⟨rfl,
    [(4, invN [4, 5, 11, 12, 13, 14, 15, 16, 17, 18, 19, 20, 21, 22, 23, 24, 25] (fun i => i ≤ xs.length ∧ ∀ j, j < i → xs.getD j default = ys.getD j default) (fun i => withS [(5, .int .i64 i)]) (fun i => xs.length - i))], ?_⟩
  have hlen : xs.length * 16 ≤ 140737488355328 := hfit.1
  clear hfit
  (repeat' (first | ((with_reducible refine BdI ?_); (first | ((with_reducible refine SqI ?_ (fun Kv hN hX hR => ?_)); (next => exact rfl)) | ((with_reducible refine JnI ?_ ?_); (next => exact rfl)) | (conv => whnf))) | (with_reducible first | refine BdS (fun Kv hN hX hR => ?_) | refine Stop.mk ?_ | refine Join.mk ⟨fun Kv hN hX hR => ?_, ?_⟩ | refine DrawJ.each ?_ | exact SubJ.self _) | with_reducible refine SubJ.of ?_ | (with_reducible first | refine FlS (fun Kf hF => ?_) | refine FlN ?_ | refine NdS (fun Kg hG => ?_) | (refine hF _ _ ?_; clear hF; clear Kf) | (refine hG _ _ _ _ ?_; clear hG; clear Kg)) | ((with_reducible refine SqI ?_ (fun Kv hN hX hR => ?_)); (next => exact rfl)) | ((with_reducible refine JnI ?_ ?_); (next => exact rfl)) | ((with_reducible first | refine hN _ ?_ | refine hX _ _ ?_ | refine hR _ ?_); (try (clear hG; clear Kg)); clear hN hX hR; clear Kv) | ((conv => whnf); first | (with_reducible first | rfl | exact True.intro | refine (fun (_ : (_ : Prop)) => ?_) | refine And.intro ?_ ?_) | ((with_reducible first | refine hN _ ?_ | refine hX _ _ ?_ | refine hR _ ?_); (try (clear hG; clear Kg)); clear hN hX hR; clear Kv) | (with_reducible first | refine BdS (fun Kv hN hX hR => ?_) | refine Stop.mk ?_ | refine Join.mk ⟨fun Kv hN hX hR => ?_, ?_⟩ | refine DrawJ.each ?_ | exact SubJ.self _) | with_reducible refine SubJ.of ?_ | (with_reducible first | refine FlS (fun Kf hF => ?_) | refine FlN ?_ | refine NdS (fun Kg hG => ?_) | (refine hF _ _ ?_; clear hF; clear Kf) | (refine hG _ _ _ _ ?_; clear hG; clear Kg))))); all_goals (conv => whnf); all_goals (repeat ((try (clear hG; clear Kg)); clear hN hX hR; clear Kv))
  all_goals first
    | (have h := of_decide_eq_false (nf (by with_reducible assumption))
       exact (decide_eq_false (fun e => h (by rw [e]))).symm)
    | (refine ⟨0, ⟨by omega, by intros; omega⟩, ?_⟩
       (repeat' (first | ((with_reducible refine BdI ?_); (first | ((with_reducible refine SqI ?_ (fun Kv hN hX hR => ?_)); (next => exact rfl)) | ((with_reducible refine JnI ?_ ?_); (next => exact rfl)) | (conv => whnf))) | (with_reducible first | refine BdS (fun Kv hN hX hR => ?_) | refine Stop.mk ?_ | refine Join.mk ⟨fun Kv hN hX hR => ?_, ?_⟩ | refine DrawJ.each ?_ | exact SubJ.self _) | with_reducible refine SubJ.of ?_ | (with_reducible first | refine FlS (fun Kf hF => ?_) | refine FlN ?_ | refine NdS (fun Kg hG => ?_) | (refine hF _ _ ?_; clear hF; clear Kf) | (refine hG _ _ _ _ ?_; clear hG; clear Kg)) | ((with_reducible refine SqI ?_ (fun Kv hN hX hR => ?_)); (next => exact rfl)) | ((with_reducible refine JnI ?_ ?_); (next => exact rfl)) | ((with_reducible first | refine hN _ ?_ | refine hX _ _ ?_ | refine hR _ ?_); (try (clear hG; clear Kg)); clear hN hX hR; clear Kv) | ((conv => whnf); first | (with_reducible first | rfl | exact True.intro | intro _ | refine And.intro ?_ ?_) | ((with_reducible first | refine hN _ ?_ | refine hX _ _ ?_ | refine hR _ ?_); (try (clear hG; clear Kg)); clear hN hX hR; clear Kv) | (with_reducible first | refine BdS (fun Kv hN hX hR => ?_) | refine Stop.mk ?_ | refine Join.mk ⟨fun Kv hN hX hR => ?_, ?_⟩ | refine DrawJ.each ?_ | exact SubJ.self _) | with_reducible refine SubJ.of ?_ | (with_reducible first | refine FlS (fun Kf hF => ?_) | refine FlN ?_ | refine NdS (fun Kg hG => ?_) | (refine hF _ _ ?_; clear hF; clear Kf) | (refine hG _ _ _ _ ?_; clear hG; clear Kg))))); all_goals (conv => whnf); all_goals (repeat ((try (clear hG; clear Kg)); clear hN hX hR; clear Kv))
       all_goals rfl)
    | (with_reducible intro i hi
       have hl : (xs.length : Int) = ys.length := of_decide_eq_true (nt (by with_reducible assumption))
       (repeat' (first | ((with_reducible refine BdI ?_); (first | ((with_reducible refine SqI ?_ (fun Kv hN hX hR => ?_)); (next => exact rfl)) | ((with_reducible refine JnI ?_ ?_); (next => exact rfl)) | (conv => whnf))) | (with_reducible first | refine BdS (fun Kv hN hX hR => ?_) | refine Stop.mk ?_ | refine Join.mk ⟨fun Kv hN hX hR => ?_, ?_⟩ | refine DrawJ.each ?_ | exact SubJ.self _) | with_reducible refine SubJ.of ?_ | (with_reducible first | refine FlS (fun Kf hF => ?_) | refine FlN ?_ | refine NdS (fun Kg hG => ?_) | (refine hF _ _ ?_; clear hF; clear Kf) | (refine hG _ _ _ _ ?_; clear hG; clear Kg)) | ((with_reducible refine SqI ?_ (fun Kv hN hX hR => ?_)); (next => exact rfl)) | ((with_reducible refine JnI ?_ ?_); (next => exact rfl)) | ((with_reducible first | refine hN _ ?_ | refine hX _ _ ?_ | refine hR _ ?_); (try (clear hG; clear Kg)); clear hN hX hR; clear Kv) | ((conv => whnf); first | (with_reducible first | rfl | exact True.intro | intro _ | refine And.intro ?_ ?_) | ((with_reducible first | refine hN _ ?_ | refine hX _ _ ?_ | refine hR _ ?_); (try (clear hG; clear Kg)); clear hN hX hR; clear Kv) | (with_reducible first | refine BdS (fun Kv hN hX hR => ?_) | refine Stop.mk ?_ | refine Join.mk ⟨fun Kv hN hX hR => ?_, ?_⟩ | refine DrawJ.each ?_ | exact SubJ.self _) | with_reducible refine SubJ.of ?_ | (with_reducible first | refine FlS (fun Kf hF => ?_) | refine FlN ?_ | refine NdS (fun Kg hG => ?_) | (refine hF _ _ ?_; clear hF; clear Kf) | (refine hG _ _ _ _ ?_; clear hG; clear Kg))))); all_goals (conv => whnf); all_goals (repeat ((try (clear hG; clear Kg)); clear hN hX hR; clear Kv))
       all_goals (try simp only [Int.toNat_natCast] at *)
       all_goals first
         | (have h := of_decide_eq_true (show decide ((i : Int) < (xs.length : Nat)) = true by with_reducible assumption)
            exact Ob.mk ⟨by omega, by omega⟩)
         | (have h := of_decide_eq_true (show decide ((i : Int) < (xs.length : Nat)) = true by with_reducible assumption)
            have h3 : ¬ (xs.getD i default = ys.getD i default) := by
              intro e
              simp_all
              done
            exact (decide_eq_false (fun e => h3 (by rw [e]))).symm)
         | (have h := of_decide_eq_true (show decide ((i : Int) < (xs.length : Nat)) = true by with_reducible assumption)
            have h3 : xs.getD i default = ys.getD i default := by
              simp only [Bool.not_eq_false', Bool.and_eq_true, decide_eq_true_eq] at *
              first
                | assumption
                | (rename_i h4; cases hx : xs.getD i default; cases hy : ys.getD i default; simp_all)
            refine ⟨i + 1, ⟨by omega, fun j hj => ?_⟩, by show xs.length - (i + 1) < xs.length - i; omega, ?_⟩
            · rcases Nat.lt_succ_iff_lt_or_eq.1 hj with h4 | h4
              · exact hi.2 j h4
              · subst h4; exact h3
            · (repeat' (first | ((with_reducible refine BdI ?_); (first | ((with_reducible refine SqI ?_ (fun Kv hN hX hR => ?_)); (next => exact rfl)) | ((with_reducible refine JnI ?_ ?_); (next => exact rfl)) | (conv => whnf))) | (with_reducible first | refine BdS (fun Kv hN hX hR => ?_) | refine Stop.mk ?_ | refine Join.mk ⟨fun Kv hN hX hR => ?_, ?_⟩ | refine DrawJ.each ?_ | exact SubJ.self _) | with_reducible refine SubJ.of ?_ | (with_reducible first | refine FlS (fun Kf hF => ?_) | refine FlN ?_ | refine NdS (fun Kg hG => ?_) | (refine hF _ _ ?_; clear hF; clear Kf) | (refine hG _ _ _ _ ?_; clear hG; clear Kg)) | ((with_reducible refine SqI ?_ (fun Kv hN hX hR => ?_)); (next => exact rfl)) | ((with_reducible refine JnI ?_ ?_); (next => exact rfl)) | ((with_reducible first | refine hN _ ?_ | refine hX _ _ ?_ | refine hR _ ?_); (try (clear hG; clear Kg)); clear hN hX hR; clear Kv) | ((conv => whnf); first | (with_reducible first | rfl | exact True.intro | intro _ | refine And.intro ?_ ?_) | ((with_reducible first | refine hN _ ?_ | refine hX _ _ ?_ | refine hR _ ?_); (try (clear hG; clear Kg)); clear hN hX hR; clear Kv) | (with_reducible first | refine BdS (fun Kv hN hX hR => ?_) | refine Stop.mk ?_ | refine Join.mk ⟨fun Kv hN hX hR => ?_, ?_⟩ | refine DrawJ.each ?_ | exact SubJ.self _) | with_reducible refine SubJ.of ?_ | (with_reducible first | refine FlS (fun Kf hF => ?_) | refine FlN ?_ | refine NdS (fun Kg hG => ?_) | (refine hF _ _ ?_; clear hF; clear Kf) | (refine hG _ _ _ _ ?_; clear hG; clear Kg))))); all_goals (conv => whnf); all_goals (repeat ((try (clear hG; clear Kg)); clear hN hX hR; clear Kv))
              all_goals first
                | exact wrapI (by omega) (by omega)
                | rfl)
         | (have h := of_decide_eq_false (show decide ((i : Int) < (xs.length : Nat)) = false by with_reducible assumption)
            exact (decide_eq_true (eq_of_take (d := default) (by omega) fun j hj => hi.2 j (by omega))).symm)
         | trace_state)
    | trace_state
end Go.Proofs.YtmhieddhmebfhaaGreat

/- Contracts: new worlds; messages sent; comparisons. -/
namespace Go.Proofs.YtmhieddhmebfhaaGreat
open Go.RowKit
set_option maxRecDepth 20000
def upN (id : Int) : GNode := ⟨true, ⟨id, [], []⟩, [], []⟩
def worldZ : GWorld := ⟨[], [], []⟩
theorem newN_up {id : Int} (h : placeB id = true) : newN id [] = (upN id, 0) := newN_yes h rfl
noncomputable def newW (ids : List Int) : GWorld × Int := Classical.choose (seal_ex (if 1 ≤ ids.length ∧ ids.length ≤ 8 ∧ passB ids = true then ((⟨ids.map upN, [], []⟩ : GWorld), (0 : Int)) else (worldZ, 2300)))
theorem newW_def (ids : List Int) : newW ids = if 1 ≤ ids.length ∧ ids.length ≤ 8 ∧ passB ids = true then ((⟨ids.map upN, [], []⟩ : GWorld), (0 : Int)) else (worldZ, 2300) := Classical.choose_spec (seal_ex _)
theorem newW_no {ids : List Int} (h : ¬ (1 ≤ ids.length ∧ ids.length ≤ 8 ∧ passB ids = true)) : newW ids = (worldZ, 2300) := by rw [newW_def, if_neg h]
theorem newW_yes {ids : List Int} (h1 : 1 ≤ ids.length) (h2 : ids.length ≤ 8) (h3 : passB ids = true) : newW ids = (⟨ids.map upN, [], []⟩, 0) := by rw [newW_def, if_pos ⟨h1, h2, h3⟩]
noncomputable def oNewW (ids : List Int) : Out := .ok (.tup [.agg [.own 0, .row .new (.cuts (newW ids).1.cuts), .row .new (.msgs (newW ids).1.packets)], .int .i64 (newW ids).2]) [.nodes (newW ids).1.nodes]
theorem up_succ {l : List Int} {i : Nat} (h : i < l.length) : (l.take (i + 1)).map upN = (l.take i).map upN ++ [upN (l.getD i 0)] := by
  rw [List.take_succ_eq_append_getElem h, List.map_append]
  simp [List.getD_eq_getElem?_getD, h]
theorem up_one {l : List Int} (h : 0 < l.length) : (l.take 1).map upN = [upN (l.getD 0 0)] := by
  cases l with
  | nil => simp at h
  | cons x l => rfl
theorem all_take1 {l : List Int} {x : Int} (h : 0 < l.length) (hx : x ∈ l.take 1) : x = l.getD 0 0 := by
  cases l with
  | nil => simp at h
  | cons y l => simpa using hx
set_option maxHeartbeats 4000000 in
theorem k_worldNew : Known Tryz.prog tau 19 (S1 dInts oNewW) := by
  refine known1 hmix tau_ok (ctx_cons k_passMay (ctx_cons k_New ctx_nil)) (fn := Tryz.f19) (by kernel_rfl) [] (by kernel_rfl) _ _ fun l hfit => ⟨rfl,
    [(5, invX Nat [6, 7, 8, 25, 26, 27, 28, 29, 30, 31, 32, 33, 34, 35, 36, 37, 38, 39, 40] [4, 38] (fun i => i ≤ l.length) (fun i => match i with
      | 0 => fun st => withS [(25, .int .i64 0)] (withB [(4, (47, [.nilS (.nodes []), .nilS (.cuts []), .nilS (.msgs [])]))] st)
      | i + 1 => fun st => withS [(25, .int .i64 ((i + 1 : Nat) : Int))] (withR [(38, .own (.nodes ((l.take (i + 1)).map upN)))] (withB [(4, (47, [.own 38, .nilS (.cuts []), .nilS (.msgs [])]))] st))) (fun i => l.length - i))], ?_⟩
  clear hfit
  (repeat' (first | ((with_reducible refine BdI ?_); (first | ((with_reducible refine SqI ?_ (fun Kv hN hX hR => ?_)); (next => exact rfl)) | ((with_reducible refine JnI ?_ ?_); (next => exact rfl)) | (conv => whnf))) | (with_reducible first | refine BdS (fun Kv hN hX hR => ?_) | refine Stop.mk ?_ | refine Join.mk ⟨fun Kv hN hX hR => ?_, ?_⟩ | refine DrawJ.each ?_ | exact SubJ.self _) | with_reducible refine SubJ.of ?_ | (with_reducible first | refine FlS (fun Kf hF => ?_) | refine FlN ?_ | refine NdS (fun Kg hG => ?_) | (refine hF _ _ ?_; clear hF; clear Kf) | (refine hG _ _ _ _ ?_; clear hG; clear Kg)) | ((with_reducible refine SqI ?_ (fun Kv hN hX hR => ?_)); (next => exact rfl)) | ((with_reducible refine JnI ?_ ?_); (next => exact rfl)) | ((with_reducible first | refine hN _ ?_ | refine hX _ _ ?_ | refine hR _ ?_); (try (clear hG; clear Kg)); clear hN hX hR; clear Kv) | ((conv => whnf); first | (with_reducible first | rfl | exact True.intro | refine (fun (_ : (_ : Prop)) => ?_) | refine And.intro ?_ ?_) | ((with_reducible first | refine hN _ ?_ | refine hX _ _ ?_ | refine hR _ ?_); (try (clear hG; clear Kg)); clear hN hX hR; clear Kv) | (with_reducible first | refine BdS (fun Kv hN hX hR => ?_) | refine Stop.mk ?_ | refine Join.mk ⟨fun Kv hN hX hR => ?_, ?_⟩ | refine DrawJ.each ?_ | exact SubJ.self _) | with_reducible refine SubJ.of ?_ | (with_reducible first | refine FlS (fun Kf hF => ?_) | refine FlN ?_ | refine NdS (fun Kg hG => ?_) | (refine hF _ _ ?_; clear hF; clear Kf) | (refine hG _ _ _ _ ?_; clear hG; clear Kg))))); all_goals (conv => whnf); all_goals (repeat ((try (clear hG; clear Kg)); clear hN hX hR; clear Kv))
  all_goals first
    | (have h := of_decide_eq_true (show decide ((l.length : Int) = 0) = true by with_reducible assumption)
       rw [newW_no (fun g => by have := g.1; omega)] <;> rfl)
    | (have h := of_decide_eq_true (show decide ((8 : Int) < (l.length : Nat)) = true by with_reducible assumption)
       rw [newW_no (fun g => by have := g.2.1; omega)] <;> rfl)
    | (have h := nf (show (!passB l) = true by with_reducible assumption)
       rw [newW_no (fun g => by rw [g.2.2] at h; simp at h)] <;> rfl)
    | (have n1 := of_decide_eq_false (show decide ((l.length : Int) = 0) = false by with_reducible assumption)
       have n2 := of_decide_eq_false (show decide ((8 : Int) < (l.length : Nat)) = false by with_reducible assumption)
       have n3 := nt (show (!passB l) = false by with_reducible assumption)
       have hy := newW_yes (ids := l) (by omega) (by omega) n3
       have hpl := (passB_iff.1 n3).2.2
       first
         | (refine ⟨0, Nat.zero_le _, ?_⟩
            (repeat' (first | ((with_reducible refine BdI ?_); (first | ((with_reducible refine SqI ?_ (fun Kv hN hX hR => ?_)); (next => exact rfl)) | ((with_reducible refine JnI ?_ ?_); (next => exact rfl)) | (conv => whnf))) | (with_reducible first | refine BdS (fun Kv hN hX hR => ?_) | refine Stop.mk ?_ | refine Join.mk ⟨fun Kv hN hX hR => ?_, ?_⟩ | refine DrawJ.each ?_ | exact SubJ.self _) | with_reducible refine SubJ.of ?_ | (with_reducible first | refine FlS (fun Kf hF => ?_) | refine FlN ?_ | refine NdS (fun Kg hG => ?_) | (refine hF _ _ ?_; clear hF; clear Kf) | (refine hG _ _ _ _ ?_; clear hG; clear Kg)) | ((with_reducible refine SqI ?_ (fun Kv hN hX hR => ?_)); (next => exact rfl)) | ((with_reducible refine JnI ?_ ?_); (next => exact rfl)) | ((with_reducible first | refine hN _ ?_ | refine hX _ _ ?_ | refine hR _ ?_); (try (clear hG; clear Kg)); clear hN hX hR; clear Kv) | ((conv => whnf); first | (with_reducible first | rfl | exact True.intro | intro _ | refine And.intro ?_ ?_) | ((with_reducible first | refine hN _ ?_ | refine hX _ _ ?_ | refine hR _ ?_); (try (clear hG; clear Kg)); clear hN hX hR; clear Kv) | (with_reducible first | refine BdS (fun Kv hN hX hR => ?_) | refine Stop.mk ?_ | refine Join.mk ⟨fun Kv hN hX hR => ?_, ?_⟩ | refine DrawJ.each ?_ | exact SubJ.self _) | with_reducible refine SubJ.of ?_ | (with_reducible first | refine FlS (fun Kf hF => ?_) | refine FlN ?_ | refine NdS (fun Kg hG => ?_) | (refine hF _ _ ?_; clear hF; clear Kf) | (refine hG _ _ _ _ ?_; clear hG; clear Kg))))); all_goals (conv => whnf); all_goals (repeat ((try (clear hG; clear Kg)); clear hN hX hR; clear Kv))
            all_goals rfl)
         | (with_reducible intro i hi
            have hi : i ≤ l.length := hi
            rcases i with _ | i
            all_goals
              (repeat' (first | ((with_reducible refine BdI ?_); (first | ((with_reducible refine SqI ?_ (fun Kv hN hX hR => ?_)); (next => exact rfl)) | ((with_reducible refine JnI ?_ ?_); (next => exact rfl)) | (conv => whnf))) | (with_reducible first | refine BdS (fun Kv hN hX hR => ?_) | refine Stop.mk ?_ | refine Join.mk ⟨fun Kv hN hX hR => ?_, ?_⟩ | refine DrawJ.each ?_ | exact SubJ.self _) | with_reducible refine SubJ.of ?_ | (with_reducible first | refine FlS (fun Kf hF => ?_) | refine FlN ?_ | refine NdS (fun Kg hG => ?_) | (refine hF _ _ ?_; clear hF; clear Kf) | (refine hG _ _ _ _ ?_; clear hG; clear Kg)) | ((with_reducible refine SqI ?_ (fun Kv hN hX hR => ?_)); (next => exact rfl)) | ((with_reducible refine JnI ?_ ?_); (next => exact rfl)) | ((with_reducible first | refine hN _ ?_ | refine hX _ _ ?_ | refine hR _ ?_); (try (clear hG; clear Kg)); clear hN hX hR; clear Kv) | ((conv => whnf); first | (with_reducible first | rfl | exact True.intro | intro _ | refine And.intro ?_ ?_) | ((with_reducible first | refine hN _ ?_ | refine hX _ _ ?_ | refine hR _ ?_); (try (clear hG; clear Kg)); clear hN hX hR; clear Kv) | (with_reducible first | refine BdS (fun Kv hN hX hR => ?_) | refine Stop.mk ?_ | refine Join.mk ⟨fun Kv hN hX hR => ?_, ?_⟩ | refine DrawJ.each ?_ | exact SubJ.self _) | with_reducible refine SubJ.of ?_ | (with_reducible first | refine FlS (fun Kf hF => ?_) | refine FlN ?_ | refine NdS (fun Kg hG => ?_) | (refine hF _ _ ?_; clear hF; clear Kf) | (refine hG _ _ _ _ ?_; clear hG; clear Kg))))); all_goals (conv => whnf); all_goals (repeat ((try (clear hG; clear Kg)); clear hN hX hR; clear Kv))
            all_goals (try simp only [Int.toNat_natCast, Int.toNat_zero, etaNd, List.nil_append] at *)
            all_goals first
              | exact Ob.mk ⟨by omega, of_decide_eq_true (by with_reducible assumption)⟩
              | (refine Ob.mk ?_
                 simp only [Rw.len, Rw.bts, Rw.kd, kdBytes, List.length_cons, List.length_nil, List.length_map, List.length_take]
                 omega)
              | (have h := of_decide_eq_true (show decide ((0 : Int) < (l.length : Nat)) = true by with_reducible assumption)
                 have e1 := newN_up (hpl _ (getD_mem (d := (0 : Int)) (show 0 < l.length by omega)))
                 have e2 := up_one (show 0 < l.length by omega)
                 refine ⟨1, by show 1 ≤ l.length; omega, by omega, ?_⟩
                 (repeat' (first | ((with_reducible refine BdI ?_); (first | ((with_reducible refine SqI ?_ (fun Kv hN hX hR => ?_)); (next => exact rfl)) | ((with_reducible refine JnI ?_ ?_); (next => exact rfl)) | (conv => whnf))) | (with_reducible first | refine BdS (fun Kv hN hX hR => ?_) | refine Stop.mk ?_ | refine Join.mk ⟨fun Kv hN hX hR => ?_, ?_⟩ | refine DrawJ.each ?_ | exact SubJ.self _) | with_reducible refine SubJ.of ?_ | (with_reducible first | refine FlS (fun Kf hF => ?_) | refine FlN ?_ | refine NdS (fun Kg hG => ?_) | (refine hF _ _ ?_; clear hF; clear Kf) | (refine hG _ _ _ _ ?_; clear hG; clear Kg)) | ((with_reducible refine SqI ?_ (fun Kv hN hX hR => ?_)); (next => exact rfl)) | ((with_reducible refine JnI ?_ ?_); (next => exact rfl)) | ((with_reducible first | refine hN _ ?_ | refine hX _ _ ?_ | refine hR _ ?_); (try (clear hG; clear Kg)); clear hN hX hR; clear Kv) | ((conv => whnf); first | (with_reducible first | rfl | exact True.intro | intro _ | refine And.intro ?_ ?_) | ((with_reducible first | refine hN _ ?_ | refine hX _ _ ?_ | refine hR _ ?_); (try (clear hG; clear Kg)); clear hN hX hR; clear Kv) | (with_reducible first | refine BdS (fun Kv hN hX hR => ?_) | refine Stop.mk ?_ | refine Join.mk ⟨fun Kv hN hX hR => ?_, ?_⟩ | refine DrawJ.each ?_ | exact SubJ.self _) | with_reducible refine SubJ.of ?_ | (with_reducible first | refine FlS (fun Kf hF => ?_) | refine FlN ?_ | refine NdS (fun Kg hG => ?_) | (refine hF _ _ ?_; clear hF; clear Kf) | (refine hG _ _ _ _ ?_; clear hG; clear Kg))))); all_goals (conv => whnf); all_goals (repeat ((try (clear hG; clear Kg)); clear hN hX hR; clear Kv))
                 all_goals first
                   | exact wrapI (by omega) (by omega)
                   | (refine congrArg Rw.nodes ?_
                      rw [e2, e1]
                      done)
                   | rfl
                   | trace_state)
              | (have h := of_decide_eq_true (show decide (((i + 1 : Nat) : Int) < (l.length : Nat)) = true by with_reducible assumption)
                 have e1 := newN_up (hpl _ (getD_mem (d := (0 : Int)) (show i + 1 < l.length by omega)))
                 have e2 := up_succ (show i + 1 < l.length by omega)
                 refine ⟨i + 1 + 1, by show i + 1 + 1 ≤ l.length; omega, by omega, ?_⟩
                 (repeat' (first | ((with_reducible refine BdI ?_); (first | ((with_reducible refine SqI ?_ (fun Kv hN hX hR => ?_)); (next => exact rfl)) | ((with_reducible refine JnI ?_ ?_); (next => exact rfl)) | (conv => whnf))) | (with_reducible first | refine BdS (fun Kv hN hX hR => ?_) | refine Stop.mk ?_ | refine Join.mk ⟨fun Kv hN hX hR => ?_, ?_⟩ | refine DrawJ.each ?_ | exact SubJ.self _) | with_reducible refine SubJ.of ?_ | (with_reducible first | refine FlS (fun Kf hF => ?_) | refine FlN ?_ | refine NdS (fun Kg hG => ?_) | (refine hF _ _ ?_; clear hF; clear Kf) | (refine hG _ _ _ _ ?_; clear hG; clear Kg)) | ((with_reducible refine SqI ?_ (fun Kv hN hX hR => ?_)); (next => exact rfl)) | ((with_reducible refine JnI ?_ ?_); (next => exact rfl)) | ((with_reducible first | refine hN _ ?_ | refine hX _ _ ?_ | refine hR _ ?_); (try (clear hG; clear Kg)); clear hN hX hR; clear Kv) | ((conv => whnf); first | (with_reducible first | rfl | exact True.intro | intro _ | refine And.intro ?_ ?_) | ((with_reducible first | refine hN _ ?_ | refine hX _ _ ?_ | refine hR _ ?_); (try (clear hG; clear Kg)); clear hN hX hR; clear Kv) | (with_reducible first | refine BdS (fun Kv hN hX hR => ?_) | refine Stop.mk ?_ | refine Join.mk ⟨fun Kv hN hX hR => ?_, ?_⟩ | refine DrawJ.each ?_ | exact SubJ.self _) | with_reducible refine SubJ.of ?_ | (with_reducible first | refine FlS (fun Kf hF => ?_) | refine FlN ?_ | refine NdS (fun Kg hG => ?_) | (refine hF _ _ ?_; clear hF; clear Kf) | (refine hG _ _ _ _ ?_; clear hG; clear Kg))))); all_goals (conv => whnf); all_goals (repeat ((try (clear hG; clear Kg)); clear hN hX hR; clear Kv))
                 all_goals first
                   | exact wrapI (by omega) (by omega)
                   | (refine congrArg Rw.nodes ?_
                      rw [e2, e1]
                      done)
                   | rfl
                   | trace_state)
              | (exfalso
                 have h := of_decide_eq_false (show decide ((0 : Int) < (l.length : Nat)) = false by with_reducible assumption)
                 omega)
              | (have h := of_decide_eq_false (show decide (((i + 1 : Nat) : Int) < (l.length : Nat)) = false by with_reducible assumption)
                 rw [hy]
                 first
                   | done
                   | rfl
                   | rw [List.take_of_length_le (by omega)])
              | trace_state)
         | trace_state)
    | trace_state
set_option maxHeartbeats 4000000 in
theorem k_refNewW : Known Tryz.prog tau 20 (S1 dInts oNewW) := by
  refine known1 hmix tau_ok (ctx_cons k_refNew ctx_nil) (fn := Tryz.f20) (by kernel_rfl) [(8, [(0, 0), (1, 1), (2, 2), (3, 4), (4, 12), (5, 20), (6, 32), (7, 32), (8, 160), (9, 352), (10, 544), (11, 32), (12, 32), (13, 6176), (14, 8224), (15, 17440), (16, 32804), (17, 65540)])] (by kernel_rfl) _ _ fun l hfit => ⟨rfl,
    [(5, invX Nat (3 :: 5 :: 6 :: 7 :: 17 :: 18 :: 19 :: 20 :: 21 :: 22 :: 23 :: 24 :: 25 :: 26 :: 27 :: 28 :: 29 :: 30 :: 31 :: 32 :: 33 :: 34 :: 35 :: 36 :: 37 :: 38 :: 39 :: 40 :: 41 :: 42 :: 43 :: 44 :: 45 :: 46 :: 47 :: 48 :: 49 :: 50 :: 51 :: 52 :: 53 :: 54 :: 55 :: []) [4, 54] (fun i => i ≤ l.length ∧ (∀ x ∈ l.take i, placeB x = true) ∧ ∀ t, t + 1 < i → l.getD t 0 < l.getD (t + 1) 0) (fun i => match i with
      | 0 => fun st => withS [(5, .int .i64 0)] (withB [(4, (47, [.nilS (.nodes []), .nilS (.cuts []), .nilS (.msgs [])]))] st)
      | i + 1 => fun st => withS [(5, .int .i64 ((i + 1 : Nat) : Int))] (withR [(54, .own (.nodes ((l.take (i + 1)).map upN)))] (withB [(4, (47, [.own 54, .nilS (.cuts []), .nilS (.msgs [])]))] st))) (fun i => l.length - i))], ?_⟩
  clear hfit
  (repeat' (first | ((with_reducible refine BdI ?_); (first | ((with_reducible refine SqI ?_ (fun Kv hN hX hR => ?_)); (next => exact rfl)) | ((with_reducible refine JnI ?_ ?_); (next => exact rfl)) | (conv => whnf))) | (with_reducible first | refine BdS (fun Kv hN hX hR => ?_) | refine Stop.mk ?_ | refine Join.mk ⟨fun Kv hN hX hR => ?_, ?_⟩ | refine DrawJ.each ?_ | exact SubJ.self _) | with_reducible refine SubJ.of ?_ | (with_reducible first | refine FlS (fun Kf hF => ?_) | refine FlN ?_ | refine NdS (fun Kg hG => ?_) | (refine hF _ _ ?_; clear hF; clear Kf) | (refine hG _ _ _ _ ?_; clear hG; clear Kg)) | ((with_reducible refine SqI ?_ (fun Kv hN hX hR => ?_)); (next => exact rfl)) | ((with_reducible refine JnI ?_ ?_); (next => exact rfl)) | ((with_reducible first | refine hN _ ?_ | refine hX _ _ ?_ | refine hR _ ?_); (try (clear hG; clear Kg)); clear hN hX hR; clear Kv) | ((conv => whnf); first | (with_reducible first | rfl | exact True.intro | refine (fun (_ : (_ : Prop)) => ?_) | refine And.intro ?_ ?_) | ((with_reducible first | refine hN _ ?_ | refine hX _ _ ?_ | refine hR _ ?_); (try (clear hG; clear Kg)); clear hN hX hR; clear Kv) | (with_reducible first | refine BdS (fun Kv hN hX hR => ?_) | refine Stop.mk ?_ | refine Join.mk ⟨fun Kv hN hX hR => ?_, ?_⟩ | refine DrawJ.each ?_ | exact SubJ.self _) | with_reducible refine SubJ.of ?_ | (with_reducible first | refine FlS (fun Kf hF => ?_) | refine FlN ?_ | refine NdS (fun Kg hG => ?_) | (refine hF _ _ ?_; clear hF; clear Kf) | (refine hG _ _ _ _ ?_; clear hG; clear Kg))))); all_goals (conv => whnf); all_goals (repeat ((try (clear hG; clear Kg)); clear hN hX hR; clear Kv))
  all_goals first
    | (have h := of_decide_eq_true (show decide ((l.length : Int) < 1) = true by with_reducible assumption)
       rw [newW_no (fun g => by have := g.1; omega)] <;> rfl)
    | (have h := of_decide_eq_true (show decide ((8 : Int) < (l.length : Nat)) = true by with_reducible assumption)
       rw [newW_no (fun g => by have := g.2.1; omega)] <;> rfl)
    | (have n1 := of_decide_eq_false (show decide ((l.length : Int) < 1) = false by with_reducible assumption)
       have n2 := of_decide_eq_false (show decide ((8 : Int) < (l.length : Nat)) = false by with_reducible assumption)
       first
         | (refine ⟨0, ⟨Nat.zero_le _, by simp, by intros; omega⟩, ?_⟩
            (repeat' (first | ((with_reducible refine BdI ?_); (first | ((with_reducible refine SqI ?_ (fun Kv hN hX hR => ?_)); (next => exact rfl)) | ((with_reducible refine JnI ?_ ?_); (next => exact rfl)) | (conv => whnf))) | (with_reducible first | refine BdS (fun Kv hN hX hR => ?_) | refine Stop.mk ?_ | refine Join.mk ⟨fun Kv hN hX hR => ?_, ?_⟩ | refine DrawJ.each ?_ | exact SubJ.self _) | with_reducible refine SubJ.of ?_ | (with_reducible first | refine FlS (fun Kf hF => ?_) | refine FlN ?_ | refine NdS (fun Kg hG => ?_) | (refine hF _ _ ?_; clear hF; clear Kf) | (refine hG _ _ _ _ ?_; clear hG; clear Kg)) | ((with_reducible refine SqI ?_ (fun Kv hN hX hR => ?_)); (next => exact rfl)) | ((with_reducible refine JnI ?_ ?_); (next => exact rfl)) | ((with_reducible first | refine hN _ ?_ | refine hX _ _ ?_ | refine hR _ ?_); (try (clear hG; clear Kg)); clear hN hX hR; clear Kv) | ((conv => whnf); first | (with_reducible first | rfl | exact True.intro | intro _ | refine And.intro ?_ ?_) | ((with_reducible first | refine hN _ ?_ | refine hX _ _ ?_ | refine hR _ ?_); (try (clear hG; clear Kg)); clear hN hX hR; clear Kv) | (with_reducible first | refine BdS (fun Kv hN hX hR => ?_) | refine Stop.mk ?_ | refine Join.mk ⟨fun Kv hN hX hR => ?_, ?_⟩ | refine DrawJ.each ?_ | exact SubJ.self _) | with_reducible refine SubJ.of ?_ | (with_reducible first | refine FlS (fun Kf hF => ?_) | refine FlN ?_ | refine NdS (fun Kg hG => ?_) | (refine hF _ _ ?_; clear hF; clear Kf) | (refine hG _ _ _ _ ?_; clear hG; clear Kg))))); all_goals (conv => whnf); all_goals (repeat ((try (clear hG; clear Kg)); clear hN hX hR; clear Kv))
            all_goals rfl)
         | (with_reducible intro i hi
            obtain ⟨hi, hp, hr⟩ : i ≤ l.length ∧ (∀ x ∈ l.take i, placeB x = true) ∧ ∀ t, t + 1 < i → l.getD t 0 < l.getD (t + 1) 0 := hi
            rcases i with _ | i
            all_goals
              (repeat' (first | ((with_reducible refine BdI ?_); (first | ((with_reducible refine SqI ?_ (fun Kv hN hX hR => ?_)); (next => exact rfl)) | ((with_reducible refine JnI ?_ ?_); (next => exact rfl)) | (conv => whnf))) | (with_reducible first | refine BdS (fun Kv hN hX hR => ?_) | refine Stop.mk ?_ | refine Join.mk ⟨fun Kv hN hX hR => ?_, ?_⟩ | refine DrawJ.each ?_ | exact SubJ.self _) | with_reducible refine SubJ.of ?_ | (with_reducible first | refine FlS (fun Kf hF => ?_) | refine FlN ?_ | refine NdS (fun Kg hG => ?_) | (refine hF _ _ ?_; clear hF; clear Kf) | (refine hG _ _ _ _ ?_; clear hG; clear Kg)) | ((with_reducible refine SqI ?_ (fun Kv hN hX hR => ?_)); (next => exact rfl)) | ((with_reducible refine JnI ?_ ?_); (next => exact rfl)) | ((with_reducible first | refine hN _ ?_ | refine hX _ _ ?_ | refine hR _ ?_); (try (clear hG; clear Kg)); clear hN hX hR; clear Kv) | ((conv => whnf); first | (with_reducible first | rfl | exact True.intro | intro _ | refine And.intro ?_ ?_) | ((with_reducible first | refine hN _ ?_ | refine hX _ _ ?_ | refine hR _ ?_); (try (clear hG; clear Kg)); clear hN hX hR; clear Kv) | (with_reducible first | refine BdS (fun Kv hN hX hR => ?_) | refine Stop.mk ?_ | refine Join.mk ⟨fun Kv hN hX hR => ?_, ?_⟩ | refine DrawJ.each ?_ | exact SubJ.self _) | with_reducible refine SubJ.of ?_ | (with_reducible first | refine FlS (fun Kf hF => ?_) | refine FlN ?_ | refine NdS (fun Kg hG => ?_) | (refine hF _ _ ?_; clear hF; clear Kf) | (refine hG _ _ _ _ ?_; clear hG; clear Kg))))); all_goals (conv => whnf); all_goals (repeat ((try (clear hG; clear Kg)); clear hN hX hR; clear Kv))
            all_goals (try simp only [Int.toNat_natCast, Int.toNat_zero, etaNd, List.nil_append] at *)
            all_goals first
              | exact Ob.mk ⟨by omega, of_decide_eq_true (by with_reducible assumption)⟩
              | (have hb := back1 (i := i + 1) (by omega) (by omega)
                 exact Ob.mk (by rw [hb.2]; omega))
              | (refine Ob.mk ?_
                 simp only [Rw.len, Rw.bts, Rw.kd, kdBytes, List.length_cons, List.length_nil, List.length_map, List.length_take]
                 omega)
              | (have h := of_decide_eq_true (show decide ((0 : Int) < (l.length : Nat)) = true by with_reducible assumption)
                 have hm := getD_mem (d := (0 : Int)) (show 0 < l.length by omega)
                 cases hpl : placeB (l.getD 0 0) with
                 | true =>
                   have e1 := newN_up hpl
                   have e2 := up_one (show 0 < l.length by omega)
                   first
                     | (exfalso
                        have h3 : (!decide ((newN (l.getD 0 0) []).2 = 0)) = true := by with_reducible assumption
                        rw [e1] at h3
                        simp at h3; done)
                     | exact absurd (show decide ((0 : Int) < 0) = true by with_reducible assumption) (by decide)
                     | (refine ⟨1, ⟨by show 1 ≤ l.length; omega, fun x hx => ?_, fun t ht => by omega⟩, by omega, ?_⟩
                        · rw [all_take1 (by omega) hx]
                          exact hpl
                        · (repeat' (first | ((with_reducible refine BdI ?_); (first | ((with_reducible refine SqI ?_ (fun Kv hN hX hR => ?_)); (next => exact rfl)) | ((with_reducible refine JnI ?_ ?_); (next => exact rfl)) | (conv => whnf))) | (with_reducible first | refine BdS (fun Kv hN hX hR => ?_) | refine Stop.mk ?_ | refine Join.mk ⟨fun Kv hN hX hR => ?_, ?_⟩ | refine DrawJ.each ?_ | exact SubJ.self _) | with_reducible refine SubJ.of ?_ | (with_reducible first | refine FlS (fun Kf hF => ?_) | refine FlN ?_ | refine NdS (fun Kg hG => ?_) | (refine hF _ _ ?_; clear hF; clear Kf) | (refine hG _ _ _ _ ?_; clear hG; clear Kg)) | ((with_reducible refine SqI ?_ (fun Kv hN hX hR => ?_)); (next => exact rfl)) | ((with_reducible refine JnI ?_ ?_); (next => exact rfl)) | ((with_reducible first | refine hN _ ?_ | refine hX _ _ ?_ | refine hR _ ?_); (try (clear hG; clear Kg)); clear hN hX hR; clear Kv) | ((conv => whnf); first | (with_reducible first | rfl | exact True.intro | intro _ | refine And.intro ?_ ?_) | ((with_reducible first | refine hN _ ?_ | refine hX _ _ ?_ | refine hR _ ?_); (try (clear hG; clear Kg)); clear hN hX hR; clear Kv) | (with_reducible first | refine BdS (fun Kv hN hX hR => ?_) | refine Stop.mk ?_ | refine Join.mk ⟨fun Kv hN hX hR => ?_, ?_⟩ | refine DrawJ.each ?_ | exact SubJ.self _) | with_reducible refine SubJ.of ?_ | (with_reducible first | refine FlS (fun Kf hF => ?_) | refine FlN ?_ | refine NdS (fun Kg hG => ?_) | (refine hF _ _ ?_; clear hF; clear Kf) | (refine hG _ _ _ _ ?_; clear hG; clear Kg))))); all_goals (conv => whnf); all_goals (repeat ((try (clear hG; clear Kg)); clear hN hX hR; clear Kv))
                          all_goals first
                            | exact wrapI (by omega) (by omega)
                            | (refine congrArg Rw.nodes ?_
                               rw [e2, e1]
                               done)
                            | rfl
                            | trace_state)
                 | false =>
                   have hn := newN_no (id := l.getD 0 0) (ids := []) (.inl hpl)
                   first
                     | (exfalso
                        have h3 : (!decide ((newN (l.getD 0 0) []).2 = 0)) = false := by with_reducible assumption
                        rw [hn] at h3
                        simp at h3; done)
                     | (rw [newW_no (fun g => by
                          have := (passB_iff.1 g.2.2).2.2 _ hm
                          rw [hpl] at this
                          simp at this)] <;> rfl))
              | (have h := of_decide_eq_true (show decide (((i + 1 : Nat) : Int) < (l.length : Nat)) = true by with_reducible assumption)
                 have hm := getD_mem (d := (0 : Int)) (show i + 1 < l.length by omega)
                 have hb := back1 (i := i + 1) (by omega) (by omega)
                 cases hpl : placeB (l.getD (i + 1) 0) with
                 | true =>
                   have e1 := newN_up hpl
                   have e2 := up_succ (show i + 1 < l.length by omega)
                   first
                     | (exfalso
                        have h3 : (!decide ((newN (l.getD (i + 1) 0) []).2 = 0)) = true := by with_reducible assumption
                        rw [e1] at h3
                        simp at h3; done)
                     | exact absurd (of_decide_eq_false (show decide (0 < ((i + 1 : Nat) : Int)) = false by with_reducible assumption)) (by omega)
                     | (have hq := of_decide_eq_true (show decide (l.getD (i + 1) 0 ≤ l.getD (IntKind.i64.wrap (((i + 1 : Nat) : Int) - 1)).toNat 0) = true by with_reducible assumption)
                        rw [hb.1] at hq
                        rw [newW_no (fun g => by
                          have := (passB_iff.1 g.2.2).2.1 i (i + 1) (by omega) (by omega)
                          simp only [Nat.add_sub_cancel] at hq
                          omega)] <;> rfl)
                     | (have hq := of_decide_eq_false (show decide (l.getD (i + 1) 0 ≤ l.getD (IntKind.i64.wrap (((i + 1 : Nat) : Int) - 1)).toNat 0) = false by with_reducible assumption)
                        rw [hb.1] at hq
                        refine ⟨i + 1 + 1, ⟨by show i + 1 + 1 ≤ l.length; omega, all_take_succ (d := 0) (by omega) hp hpl, fun t ht => ?_⟩, by omega, ?_⟩
                        · rcases Nat.lt_or_eq_of_le (Nat.le_of_lt_succ ht) with h3 | h3
                          · exact hr t h3
                          · rw [show t = i by omega]
                            simp only [Nat.add_sub_cancel] at hq
                            omega
                        · (repeat' (first | ((with_reducible refine BdI ?_); (first | ((with_reducible refine SqI ?_ (fun Kv hN hX hR => ?_)); (next => exact rfl)) | ((with_reducible refine JnI ?_ ?_); (next => exact rfl)) | (conv => whnf))) | (with_reducible first | refine BdS (fun Kv hN hX hR => ?_) | refine Stop.mk ?_ | refine Join.mk ⟨fun Kv hN hX hR => ?_, ?_⟩ | refine DrawJ.each ?_ | exact SubJ.self _) | with_reducible refine SubJ.of ?_ | (with_reducible first | refine FlS (fun Kf hF => ?_) | refine FlN ?_ | refine NdS (fun Kg hG => ?_) | (refine hF _ _ ?_; clear hF; clear Kf) | (refine hG _ _ _ _ ?_; clear hG; clear Kg)) | ((with_reducible refine SqI ?_ (fun Kv hN hX hR => ?_)); (next => exact rfl)) | ((with_reducible refine JnI ?_ ?_); (next => exact rfl)) | ((with_reducible first | refine hN _ ?_ | refine hX _ _ ?_ | refine hR _ ?_); (try (clear hG; clear Kg)); clear hN hX hR; clear Kv) | ((conv => whnf); first | (with_reducible first | rfl | exact True.intro | intro _ | refine And.intro ?_ ?_) | ((with_reducible first | refine hN _ ?_ | refine hX _ _ ?_ | refine hR _ ?_); (try (clear hG; clear Kg)); clear hN hX hR; clear Kv) | (with_reducible first | refine BdS (fun Kv hN hX hR => ?_) | refine Stop.mk ?_ | refine Join.mk ⟨fun Kv hN hX hR => ?_, ?_⟩ | refine DrawJ.each ?_ | exact SubJ.self _) | with_reducible refine SubJ.of ?_ | (with_reducible first | refine FlS (fun Kf hF => ?_) | refine FlN ?_ | refine NdS (fun Kg hG => ?_) | (refine hF _ _ ?_; clear hF; clear Kf) | (refine hG _ _ _ _ ?_; clear hG; clear Kg))))); all_goals (conv => whnf); all_goals (repeat ((try (clear hG; clear Kg)); clear hN hX hR; clear Kv))
                          all_goals first
                            | exact wrapI (by omega) (by omega)
                            | (refine congrArg Rw.nodes ?_
                               rw [e2, e1]
                               done)
                            | rfl
                            | trace_state)
                 | false =>
                   have hn := newN_no (id := l.getD (i + 1) 0) (ids := []) (.inl hpl)
                   first
                     | (exfalso
                        have h3 : (!decide ((newN (l.getD (i + 1) 0) []).2 = 0)) = false := by with_reducible assumption
                        rw [hn] at h3
                        simp at h3; done)
                     | (rw [newW_no (fun g => by
                          have := (passB_iff.1 g.2.2).2.2 _ hm
                          rw [hpl] at this
                          simp at this)] <;> rfl))
              | (exfalso
                 have h := of_decide_eq_false (show decide ((0 : Int) < (l.length : Nat)) = false by with_reducible assumption)
                 omega)
              | (have h := of_decide_eq_false (show decide (((i + 1 : Nat) : Int) < (l.length : Nat)) = false by with_reducible assumption)
                 have hl : l.take (i + 1) = l := List.take_of_length_le (by omega)
                 rw [hl] at hp
                 have hy := newW_yes (ids := l) (by omega) (by omega) (passB_iff.2 ⟨by omega, rising_adj fun t ht => hr t (by omega), hp⟩)
                 rw [hy]
                 first
                   | done
                   | rfl
                   | rw [hl])
              | trace_state)
         | trace_state)
    | trace_state
noncomputable def sendW (w : GWorld) (ms : List GMsg) : GWorld × Int := Classical.choose (seal_ex (if worldB w = true ∧ worldB ⟨w.nodes, w.cuts, ms⟩ = true then ((⟨w.nodes, w.cuts, w.packets ++ ms.take (512 - w.packets.length)⟩ : GWorld), (0 : Int)) else (worldZ, 2300)))
theorem sendW_def (w : GWorld) (ms : List GMsg) : sendW w ms = if worldB w = true ∧ worldB ⟨w.nodes, w.cuts, ms⟩ = true then ((⟨w.nodes, w.cuts, w.packets ++ ms.take (512 - w.packets.length)⟩ : GWorld), (0 : Int)) else (worldZ, 2300) := Classical.choose_spec (seal_ex _)
theorem sendW_no {w : GWorld} {ms : List GMsg} (h : worldB w = false ∨ worldB ⟨w.nodes, w.cuts, ms⟩ = false) : sendW w ms = (worldZ, 2300) := by
  rw [sendW_def, if_neg]
  rintro ⟨h1, h2⟩
  rcases h with h | h <;> simp_all
theorem sendW_yes {w : GWorld} {ms : List GMsg} (h1 : worldB w = true) (h2 : worldB ⟨w.nodes, w.cuts, ms⟩ = true) : sendW w ms = (⟨w.nodes, w.cuts, w.packets ++ ms.take (512 - w.packets.length)⟩, 0) := by rw [sendW_def, if_pos ⟨h1, h2⟩]
noncomputable def oSendW (w : GWorld) (ms : List GMsg) : Out := .ok (.tup [.agg [.own 0, .own 1, .own 2], .int .i64 (sendW w ms).2]) (wOwn (sendW w ms).1)
theorem room_take {p ms : List GMsg} (hp : p.length ≤ 512) (hm : ms.length ≤ 512) : 0 ≤ (if IntKind.i64.wrap (512 - (p.length : Int)) < (ms.length : Int) then IntKind.i64.wrap (512 - (p.length : Int)) else (ms.length : Int)) ∧ (if IntKind.i64.wrap (512 - (p.length : Int)) < (ms.length : Int) then IntKind.i64.wrap (512 - (p.length : Int)) else (ms.length : Int)) ≤ (ms.length : Int) ∧ ms.take (if IntKind.i64.wrap (512 - (p.length : Int)) < (ms.length : Int) then IntKind.i64.wrap (512 - (p.length : Int)) else (ms.length : Int)).toNat = ms.take (512 - p.length) := by
  rw [wrapI (by omega) (by omega)]
  split
  · refine ⟨by omega, by omega, ?_⟩
    congr 1
    omega
  · refine ⟨by omega, by omega, ?_⟩
    rw [List.take_of_length_le (by omega), List.take_of_length_le (by omega)]
set_option maxHeartbeats 4000000 in
theorem k_worldSend : Known Tryz.prog tau 21 (S2 dWorld dMsgs oSendW) := by
  refine known2 hmix tau_ok (ctx_cons k_worldMay (ctx_cons k_worldCopy (ctx_cons k_qCopy ctx_nil))) (fn := Tryz.f21) (by kernel_rfl) [(7, [(0, 0), (1, 1), (2, 0), (3, 0), (4, 8), (5, 0), (6, 48), (7, 68), (8, 128), (9, 258), (10, 1023), (11, 2047)])] (by kernel_rfl) _ _ _ fun w ms hfit => ⟨rfl, [], ?_⟩
  clear hfit
  (repeat' (first | ((with_reducible refine BdI ?_); (first | ((with_reducible refine SqI ?_ (fun Kv hN hX hR => ?_)); (next => exact rfl)) | ((with_reducible refine JnI ?_ ?_); (next => exact rfl)) | (conv => whnf))) | (with_reducible first | refine BdS (fun Kv hN hX hR => ?_) | refine Stop.mk ?_ | refine Join.mk ⟨fun Kv hN hX hR => ?_, ?_⟩ | refine DrawJ.each ?_ | exact SubJ.self _) | with_reducible refine SubJ.of ?_ | (with_reducible first | refine FlS (fun Kf hF => ?_) | refine FlN ?_ | refine NdS (fun Kg hG => ?_) | (refine hF _ _ ?_; clear hF; clear Kf) | (refine hG _ _ _ _ ?_; clear hG; clear Kg)) | ((with_reducible refine SqI ?_ (fun Kv hN hX hR => ?_)); (next => exact rfl)) | ((with_reducible refine JnI ?_ ?_); (next => exact rfl)) | ((with_reducible first | refine hN _ ?_ | refine hX _ _ ?_ | refine hR _ ?_); (try (clear hG; clear Kg)); clear hN hX hR; clear Kv) | ((conv => whnf); first | (with_reducible first | rfl | exact True.intro | intro _ | refine And.intro ?_ ?_) | ((with_reducible first | refine hN _ ?_ | refine hX _ _ ?_ | refine hR _ ?_); (try (clear hG; clear Kg)); clear hN hX hR; clear Kv) | (with_reducible first | refine BdS (fun Kv hN hX hR => ?_) | refine Stop.mk ?_ | refine Join.mk ⟨fun Kv hN hX hR => ?_, ?_⟩ | refine DrawJ.each ?_ | exact SubJ.self _) | with_reducible refine SubJ.of ?_ | (with_reducible first | refine FlS (fun Kf hF => ?_) | refine FlN ?_ | refine NdS (fun Kg hG => ?_) | (refine hF _ _ ?_; clear hF; clear Kf) | (refine hG _ _ _ _ ?_; clear hG; clear Kg))))); all_goals (conv => whnf); all_goals (repeat ((try (clear hG; clear Kg)); clear hN hX hR; clear Kv))
  all_goals (try simp only [etaWorld] at *)
  all_goals first
    | (rw [sendW_no (.inl (nf (show (!worldB w) = true by with_reducible assumption)))] <;> rfl)
    | (rw [sendW_no (.inr (nf (show (!worldB ⟨w.nodes, w.cuts, ms⟩) = true by with_reducible assumption)))] <;> rfl)
    | (have h1 := nt (show (!worldB w) = false by with_reducible assumption)
       have h2 := nt (show (!worldB ⟨w.nodes, w.cuts, ms⟩) = false by with_reducible assumption)
       have l1 := (queueB_iff2.1 (worldB_iff.1 h1).2.2.1).1
       have l2 := (queueB_iff2.1 (worldB_iff.1 h2).2.2.1).1
       have l2 : ms.length ≤ 512 := l2
       obtain ⟨r1, r2, r3⟩ := room_take l1 l2
       have hy := sendW_yes h1 h2
       first
         | exact Ob.mk ⟨by omega, r1, r2⟩
         | (refine Ob.mk ?_
            simp only [Rw.len, Rw.bts, Rw.kd, kdBytes, List.length_drop, List.length_take]
            omega)
         | (rw [hy]
            first
              | done
              | rfl
              | (refine congrArg Rw.msgs ?_
                 rw [show ∀ l : List GMsg, l.drop (Int.toNat 0) = l from fun l => rfl, r3])
              | trace_state)
         | trace_state)
    | trace_state
set_option maxHeartbeats 4000000 in
theorem k_SameWorld : Known Tryz.prog tau 23 (S2 dWorld dWorld fun a b => okB (decide (a = b))) := by
  refine known2 hmix tau_ok (ctx_cons k_SameNode (ctx_cons k_SameCuts (ctx_cons k_SameMsgs ctx_nil))) (fn := Tryz.f23) (by kernel_rfl) [(6, [(0, 0), (1, 1), (2, 0), (3, 6), (4, 8), (5, 0), (6, 32), (7, 0), (8, 192), (9, 256), (10, 528), (11, 1024)])] (by kernel_rfl) _ _ _ fun x y hfit => ⟨rfl,
    [(4, invN [4, 5, 13, 14, 15, 16, 17, 18, 19, 20, 21, 22, 23, 24, 25, 26, 27, 28, 29, 30, 31] (fun i => i ≤ x.nodes.length ∧ ∀ j, j < i → x.nodes.getD j default = y.nodes.getD j default) (fun i => withS [(5, .int .i64 i)]) (fun i => x.nodes.length - i))], ?_⟩
  have hlen : x.nodes.length * 112 ≤ 140737488355328 := hfit.1.1.1
  clear hfit
  (repeat' (first | ((with_reducible refine BdI ?_); (first | ((with_reducible refine SqI ?_ (fun Kv hN hX hR => ?_)); (next => exact rfl)) | ((with_reducible refine JnI ?_ ?_); (next => exact rfl)) | (conv => whnf))) | (with_reducible first | refine BdS (fun Kv hN hX hR => ?_) | refine Stop.mk ?_ | refine Join.mk ⟨fun Kv hN hX hR => ?_, ?_⟩ | refine DrawJ.each ?_ | exact SubJ.self _) | with_reducible refine SubJ.of ?_ | (with_reducible first | refine FlS (fun Kf hF => ?_) | refine FlN ?_ | refine NdS (fun Kg hG => ?_) | (refine hF _ _ ?_; clear hF; clear Kf) | (refine hG _ _ _ _ ?_; clear hG; clear Kg)) | ((with_reducible refine SqI ?_ (fun Kv hN hX hR => ?_)); (next => exact rfl)) | ((with_reducible refine JnI ?_ ?_); (next => exact rfl)) | ((with_reducible first | refine hN _ ?_ | refine hX _ _ ?_ | refine hR _ ?_); (try (clear hG; clear Kg)); clear hN hX hR; clear Kv) | ((conv => whnf); first | (with_reducible first | rfl | exact True.intro | refine (fun (_ : (_ : Prop)) => ?_) | refine And.intro ?_ ?_) | ((with_reducible first | refine hN _ ?_ | refine hX _ _ ?_ | refine hR _ ?_); (try (clear hG; clear Kg)); clear hN hX hR; clear Kv) | (with_reducible first | refine BdS (fun Kv hN hX hR => ?_) | refine Stop.mk ?_ | refine Join.mk ⟨fun Kv hN hX hR => ?_, ?_⟩ | refine DrawJ.each ?_ | exact SubJ.self _) | with_reducible refine SubJ.of ?_ | (with_reducible first | refine FlS (fun Kf hF => ?_) | refine FlN ?_ | refine NdS (fun Kg hG => ?_) | (refine hF _ _ ?_; clear hF; clear Kf) | (refine hG _ _ _ _ ?_; clear hG; clear Kg))))); all_goals (conv => whnf); all_goals (repeat ((try (clear hG; clear Kg)); clear hN hX hR; clear Kv))
  all_goals first
    | (have h := of_decide_eq_false (nf (show (!decide ((x.nodes.length : Int) = (y.nodes.length : Nat))) = true by with_reducible assumption))
       exact (decide_eq_false (fun e => h (by rw [e]))).symm)
    | (refine ⟨0, ⟨by omega, by intros; omega⟩, ?_⟩
       (repeat' (first | ((with_reducible refine BdI ?_); (first | ((with_reducible refine SqI ?_ (fun Kv hN hX hR => ?_)); (next => exact rfl)) | ((with_reducible refine JnI ?_ ?_); (next => exact rfl)) | (conv => whnf))) | (with_reducible first | refine BdS (fun Kv hN hX hR => ?_) | refine Stop.mk ?_ | refine Join.mk ⟨fun Kv hN hX hR => ?_, ?_⟩ | refine DrawJ.each ?_ | exact SubJ.self _) | with_reducible refine SubJ.of ?_ | (with_reducible first | refine FlS (fun Kf hF => ?_) | refine FlN ?_ | refine NdS (fun Kg hG => ?_) | (refine hF _ _ ?_; clear hF; clear Kf) | (refine hG _ _ _ _ ?_; clear hG; clear Kg)) | ((with_reducible refine SqI ?_ (fun Kv hN hX hR => ?_)); (next => exact rfl)) | ((with_reducible refine JnI ?_ ?_); (next => exact rfl)) | ((with_reducible first | refine hN _ ?_ | refine hX _ _ ?_ | refine hR _ ?_); (try (clear hG; clear Kg)); clear hN hX hR; clear Kv) | ((conv => whnf); first | (with_reducible first | rfl | exact True.intro | intro _ | refine And.intro ?_ ?_) | ((with_reducible first | refine hN _ ?_ | refine hX _ _ ?_ | refine hR _ ?_); (try (clear hG; clear Kg)); clear hN hX hR; clear Kv) | (with_reducible first | refine BdS (fun Kv hN hX hR => ?_) | refine Stop.mk ?_ | refine Join.mk ⟨fun Kv hN hX hR => ?_, ?_⟩ | refine DrawJ.each ?_ | exact SubJ.self _) | with_reducible refine SubJ.of ?_ | (with_reducible first | refine FlS (fun Kf hF => ?_) | refine FlN ?_ | refine NdS (fun Kg hG => ?_) | (refine hF _ _ ?_; clear hF; clear Kf) | (refine hG _ _ _ _ ?_; clear hG; clear Kg))))); all_goals (conv => whnf); all_goals (repeat ((try (clear hG; clear Kg)); clear hN hX hR; clear Kv))
       all_goals rfl)
    | (with_reducible intro i hi
       have hl : (x.nodes.length : Int) = y.nodes.length := of_decide_eq_true (nt (by with_reducible assumption))
       (repeat' (first | ((with_reducible refine BdI ?_); (first | ((with_reducible refine SqI ?_ (fun Kv hN hX hR => ?_)); (next => exact rfl)) | ((with_reducible refine JnI ?_ ?_); (next => exact rfl)) | (conv => whnf))) | (with_reducible first | refine BdS (fun Kv hN hX hR => ?_) | refine Stop.mk ?_ | refine Join.mk ⟨fun Kv hN hX hR => ?_, ?_⟩ | refine DrawJ.each ?_ | exact SubJ.self _) | with_reducible refine SubJ.of ?_ | (with_reducible first | refine FlS (fun Kf hF => ?_) | refine FlN ?_ | refine NdS (fun Kg hG => ?_) | (refine hF _ _ ?_; clear hF; clear Kf) | (refine hG _ _ _ _ ?_; clear hG; clear Kg)) | ((with_reducible refine SqI ?_ (fun Kv hN hX hR => ?_)); (next => exact rfl)) | ((with_reducible refine JnI ?_ ?_); (next => exact rfl)) | ((with_reducible first | refine hN _ ?_ | refine hX _ _ ?_ | refine hR _ ?_); (try (clear hG; clear Kg)); clear hN hX hR; clear Kv) | ((conv => whnf); first | (with_reducible first | rfl | exact True.intro | intro _ | refine And.intro ?_ ?_) | ((with_reducible first | refine hN _ ?_ | refine hX _ _ ?_ | refine hR _ ?_); (try (clear hG; clear Kg)); clear hN hX hR; clear Kv) | (with_reducible first | refine BdS (fun Kv hN hX hR => ?_) | refine Stop.mk ?_ | refine Join.mk ⟨fun Kv hN hX hR => ?_, ?_⟩ | refine DrawJ.each ?_ | exact SubJ.self _) | with_reducible refine SubJ.of ?_ | (with_reducible first | refine FlS (fun Kf hF => ?_) | refine FlN ?_ | refine NdS (fun Kg hG => ?_) | (refine hF _ _ ?_; clear hF; clear Kf) | (refine hG _ _ _ _ ?_; clear hG; clear Kg))))); all_goals (conv => whnf); all_goals (repeat ((try (clear hG; clear Kg)); clear hN hX hR; clear Kv))
       all_goals (try simp only [Int.toNat_natCast, etaNd] at *)
       all_goals first
         | (have h := of_decide_eq_true (show decide ((i : Int) < (x.nodes.length : Nat)) = true by with_reducible assumption)
            exact Ob.mk ⟨by omega, by omega⟩)
         | (have h := of_decide_eq_true (show decide ((i : Int) < (x.nodes.length : Nat)) = true by with_reducible assumption)
            first
              | (have h3 := of_decide_eq_false (nf (show (!decide (x.nodes.getD i default = y.nodes.getD i default)) = true by with_reducible assumption))
                 exact (decide_eq_false (fun e => h3 (by rw [e]))).symm)
              | (have h3 : x.nodes.getD i default = y.nodes.getD i default := of_decide_eq_true (nt (by with_reducible assumption))
                 refine ⟨i + 1, ⟨by omega, fun j hj => ?_⟩, by omega, ?_⟩
                 · rcases Nat.lt_succ_iff_lt_or_eq.1 hj with h4 | h4
                   · exact hi.2 j h4
                   · subst h4; exact h3
                 · (repeat' (first | ((with_reducible refine BdI ?_); (first | ((with_reducible refine SqI ?_ (fun Kv hN hX hR => ?_)); (next => exact rfl)) | ((with_reducible refine JnI ?_ ?_); (next => exact rfl)) | (conv => whnf))) | (with_reducible first | refine BdS (fun Kv hN hX hR => ?_) | refine Stop.mk ?_ | refine Join.mk ⟨fun Kv hN hX hR => ?_, ?_⟩ | refine DrawJ.each ?_ | exact SubJ.self _) | with_reducible refine SubJ.of ?_ | (with_reducible first | refine FlS (fun Kf hF => ?_) | refine FlN ?_ | refine NdS (fun Kg hG => ?_) | (refine hF _ _ ?_; clear hF; clear Kf) | (refine hG _ _ _ _ ?_; clear hG; clear Kg)) | ((with_reducible refine SqI ?_ (fun Kv hN hX hR => ?_)); (next => exact rfl)) | ((with_reducible refine JnI ?_ ?_); (next => exact rfl)) | ((with_reducible first | refine hN _ ?_ | refine hX _ _ ?_ | refine hR _ ?_); (try (clear hG; clear Kg)); clear hN hX hR; clear Kv) | ((conv => whnf); first | (with_reducible first | rfl | exact True.intro | intro _ | refine And.intro ?_ ?_) | ((with_reducible first | refine hN _ ?_ | refine hX _ _ ?_ | refine hR _ ?_); (try (clear hG; clear Kg)); clear hN hX hR; clear Kv) | (with_reducible first | refine BdS (fun Kv hN hX hR => ?_) | refine Stop.mk ?_ | refine Join.mk ⟨fun Kv hN hX hR => ?_, ?_⟩ | refine DrawJ.each ?_ | exact SubJ.self _) | with_reducible refine SubJ.of ?_ | (with_reducible first | refine FlS (fun Kf hF => ?_) | refine FlN ?_ | refine NdS (fun Kg hG => ?_) | (refine hF _ _ ?_; clear hF; clear Kf) | (refine hG _ _ _ _ ?_; clear hG; clear Kg))))); all_goals (conv => whnf); all_goals (repeat ((try (clear hG; clear Kg)); clear hN hX hR; clear Kv))
                   all_goals first
                     | exact wrapI (by omega) (by omega)
                     | rfl))
         | (have h := of_decide_eq_false (show decide ((i : Int) < (x.nodes.length : Nat)) = false by with_reducible assumption)
            have hn : x.nodes = y.nodes := eq_of_take (d := default) (by omega) fun j hj => hi.2 j (by omega)
            first
              | (have h1 := of_decide_eq_false (show decide (x.cuts = y.cuts) = false by with_reducible assumption)
                 exact (decide_eq_false fun e => h1 (by rw [e])).symm)
              | (have h1 := of_decide_eq_true (show decide (x.cuts = y.cuts) = true by with_reducible assumption)
                 refine decide_eq_decide.2 ⟨fun h2 => ?_, fun h2 => by rw [h2]⟩
                 obtain ⟨a, b, c⟩ := x
                 obtain ⟨a', b', c'⟩ := y
                 simp only at hn h1 h2
                 rw [hn, h1, h2]))
         | trace_state)
    | trace_state
end Go.Proofs.YtmhieddhmebfhaaGreat

/- Chapter 23: three nodes; awake; a new world. -/
namespace Go.Proofs.YtmhieddhmebfhaaGreat
open Go.RowKit
set_option maxRecDepth 20000
def t23n : List GNode := [⟨true, ⟨3, [⟨9, 0⟩], [200]⟩, [], []⟩, upN 9, upN 200]
def t23c : List GCut := [⟨3, 200⟩]
def t23p : List GMsg := [⟨0, 9, 3, [200], 0, ⟨0, ⟨0, 0⟩, 0, false⟩, false⟩]
theorem new3 : newW [3, 9, 200] = (⟨[upN 3, upN 9, upN 200], [], []⟩, 0) := newW_yes (by decide) (by decide) (by decide)
theorem k_trio : Known Tryz.prog tau 29 (S0 (.ok (.agg [.own 0, .own 1, .own 2]) [.nodes t23n, .cuts t23c, .msgs t23p])) := by
  refine known0 hmix tau_ok (ctx_cons k_refNewW ctx_nil) (fn := Tryz.f29) (by kernel_rfl) [] (by kernel_rfl) _ fun hfit => ⟨rfl, [], ?_⟩
  clear hfit
  (repeat' (first | ((with_reducible refine BdI ?_); (first | ((with_reducible refine SqI ?_ (fun Kv hN hX hR => ?_)); (next => exact rfl)) | ((with_reducible refine JnI ?_ ?_); (next => exact rfl)) | (conv => whnf))) | (with_reducible first | refine BdS (fun Kv hN hX hR => ?_) | refine Stop.mk ?_ | refine Join.mk ⟨fun Kv hN hX hR => ?_, ?_⟩ | refine DrawJ.each ?_ | exact SubJ.self _) | with_reducible refine SubJ.of ?_ | (with_reducible first | refine FlS (fun Kf hF => ?_) | refine FlN ?_ | refine NdS (fun Kg hG => ?_) | (refine hF _ _ ?_; clear hF; clear Kf) | (refine hG _ _ _ _ ?_; clear hG; clear Kg)) | ((with_reducible refine SqI ?_ (fun Kv hN hX hR => ?_)); (next => exact rfl)) | ((with_reducible refine JnI ?_ ?_); (next => exact rfl)) | ((with_reducible first | refine hN _ ?_ | refine hX _ _ ?_ | refine hR _ ?_); (try (clear hG; clear Kg)); clear hN hX hR; clear Kv) | ((conv => whnf); first | (with_reducible first | rfl | exact True.intro | intro _ | refine And.intro ?_ ?_) | ((with_reducible first | refine hN _ ?_ | refine hX _ _ ?_ | refine hR _ ?_); (try (clear hG; clear Kg)); clear hN hX hR; clear Kv) | (with_reducible first | refine BdS (fun Kv hN hX hR => ?_) | refine Stop.mk ?_ | refine Join.mk ⟨fun Kv hN hX hR => ?_, ?_⟩ | refine DrawJ.each ?_ | exact SubJ.self _) | with_reducible refine SubJ.of ?_ | (with_reducible first | refine FlS (fun Kf hF => ?_) | refine FlN ?_ | refine NdS (fun Kg hG => ?_) | (refine hF _ _ ?_; clear hF; clear Kf) | (refine hG _ _ _ _ ?_; clear hG; clear Kg))))); all_goals (conv => whnf); all_goals (repeat ((try (clear hG; clear Kg)); clear hN hX hR; clear Kv))
  all_goals (try simp only [new3] at *)
  all_goals first
    | (refine Ob.mk ?_; decide)
    | rfl
    | trace_state
def m39 : GMsg := ⟨0, 3, 9, [9], 0, ⟨0, ⟨0, 0⟩, 0, false⟩, false⟩
def m35 : GMsg := ⟨0, 3, 5, [], 0, ⟨0, ⟨0, 0⟩, 0, false⟩, false⟩
theorem new2 : newW [3, 9] = (⟨[upN 3, upN 9], [], []⟩, 0) := newW_yes (by decide) (by decide) (by decide)
theorem new2b : newW [9, 3] = (worldZ, 2300) := newW_no (by decide)
theorem send2 : sendW ⟨[upN 3, upN 9], [], []⟩ [m39] = (⟨[upN 3, upN 9], [], [m39]⟩, 0) := sendW_yes (by decide) (by decide)
theorem send2b : sendW ⟨[upN 3, upN 9], [], []⟩ [m35] = (worldZ, 2300) := sendW_no (.inr (by decide))
theorem may2 : worldB ⟨[upN 3, upN 9], [], [m39]⟩ = true := by decide
set_option maxHeartbeats 4000000 in
set_option maxRecDepth 20000 in
theorem k_awake23 : Known Tryz.prog tau 28 (S0 (okB true)) := by
  refine known0 hmix tau_ok (ctx_cons k_worldNew (ctx_cons k_worldSend (ctx_cons k_worldMay (ctx_cons k_Num ctx_nil)))) (fn := Tryz.f28) (by kernel_rfl) [] (by kernel_rfl) _ fun hfit => ⟨rfl, [], ?_⟩
  clear hfit
  have s1 : sendW ⟨[upN 3, upN 9], [], []⟩ [⟨0, 3, 9, [9], 0, ⟨0, ⟨0, 0⟩, 0, false⟩, false⟩] = (⟨[upN 3, upN 9], [], [m39]⟩, 0) := send2
  have s2 : sendW ⟨[upN 3, upN 9], [], []⟩ [⟨0, 3, 5, [], 0, ⟨0, ⟨0, 0⟩, 0, false⟩, false⟩] = (worldZ, 2300) := send2b
  (repeat' (first | ((with_reducible refine BdI ?_); (first | ((with_reducible refine SqI ?_ (fun Kv hN hX hR => ?_)); (next => exact rfl)) | ((with_reducible refine JnI ?_ ?_); (next => exact rfl)) | (conv => whnf))) | (with_reducible first | refine BdS (fun Kv hN hX hR => ?_) | refine Stop.mk ?_ | refine Join.mk ⟨fun Kv hN hX hR => ?_, ?_⟩ | refine DrawJ.each ?_ | exact SubJ.self _) | with_reducible refine SubJ.of ?_ | (with_reducible first | refine FlS (fun Kf hF => ?_) | refine FlN ?_ | refine NdS (fun Kg hG => ?_) | (refine hF _ _ ?_; clear hF; clear Kf) | (refine hG _ _ _ _ ?_; clear hG; clear Kg)) | ((with_reducible refine SqI ?_ (fun Kv hN hX hR => ?_)); (next => exact rfl)) | ((with_reducible refine JnI ?_ ?_); (next => exact rfl)) | ((with_reducible first | refine hN _ ?_ | refine hX _ _ ?_ | refine hR _ ?_); (try (clear hG; clear Kg)); clear hN hX hR; clear Kv) | ((conv => whnf); first | (with_reducible first | rfl | exact True.intro | intro _ | refine And.intro ?_ ?_) | ((with_reducible first | refine hN _ ?_ | refine hX _ _ ?_ | refine hR _ ?_); (try (clear hG; clear Kg)); clear hN hX hR; clear Kv) | (with_reducible first | refine BdS (fun Kv hN hX hR => ?_) | refine Stop.mk ?_ | refine Join.mk ⟨fun Kv hN hX hR => ?_, ?_⟩ | refine DrawJ.each ?_ | exact SubJ.self _) | with_reducible refine SubJ.of ?_ | (with_reducible first | refine FlS (fun Kf hF => ?_) | refine FlN ?_ | refine NdS (fun Kg hG => ?_) | (refine hF _ _ ?_; clear hF; clear Kf) | (refine hG _ _ _ _ ?_; clear hG; clear Kg))))); all_goals (conv => whnf); all_goals (repeat ((try (clear hG; clear Kg)); clear hN hX hR; clear Kv))
  all_goals (try simp only [etaWorld, new2, new2b, s1, s2, may2] at *)
  all_goals first
    | (refine Ob.mk ?_; decide)
    | rfl
    | (exfalso; rename_i h; revert h; decide)
    | trace_state
end Go.Proofs.YtmhieddhmebfhaaGreat

/- Contracts: worlds: the document's. -/
namespace Go.Proofs.YtmhieddhmebfhaaGreat
open Go.RowKit
set_option maxRecDepth 20000
def atN (l : List GNode) (x : Int) : Int := idxI (fun n => decide (n.view.id = x)) l
theorem atN_neg (l : List GNode) (x : Int) : decide (atN l x < 0) = !isNd l x := by
  unfold isNd
  rw [← idxI_ge]
  unfold atN
  by_cases h : 0 ≤ idxI (fun n => decide (n.view.id = x)) l
  · rw [decide_eq_true h, decide_eq_false (by omega)]
    rfl
  · rw [decide_eq_false h, decide_eq_true (by omega)]
    rfl
theorem k_At : Known Tryz.prog tau 71 (S2 dNodes dInt fun l x => .ok (.int .i64 (atN l x)) []) := by
  refine known2 hmix tau_ok ctx_nil (fn := Tryz.f71) (by kernel_rfl) [] (by kernel_rfl) _ _ _ fun xs x hfit => ⟨rfl,
    [(2, invN [4, 5, 6, 7, 8, 9, 10, 11, 12, 13, 14, 15, 16, 17, 18, 19, 20] (fun i => i ≤ xs.length ∧ ∀ n ∈ xs.take i, decide (n.view.id = x) = false) (fun i => withS [(5, .int .i64 i)]) (fun i => xs.length - i))], ?_⟩
  have hlen : xs.length * 112 ≤ 140737488355328 := hfit.1.1
  clear hfit
  (repeat' (first | ((with_reducible refine BdI ?_); (first | ((with_reducible refine SqI ?_ (fun Kv hN hX hR => ?_)); (next => exact rfl)) | ((with_reducible refine JnI ?_ ?_); (next => exact rfl)) | (conv => whnf))) | (with_reducible first | refine BdS (fun Kv hN hX hR => ?_) | refine Stop.mk ?_ | refine Join.mk ⟨fun Kv hN hX hR => ?_, ?_⟩ | refine DrawJ.each ?_ | exact SubJ.self _) | with_reducible refine SubJ.of ?_ | (with_reducible first | refine FlS (fun Kf hF => ?_) | refine FlN ?_ | refine NdS (fun Kg hG => ?_) | (refine hF _ _ ?_; clear hF; clear Kf) | (refine hG _ _ _ _ ?_; clear hG; clear Kg)) | ((with_reducible refine SqI ?_ (fun Kv hN hX hR => ?_)); (next => exact rfl)) | ((with_reducible refine JnI ?_ ?_); (next => exact rfl)) | ((with_reducible first | refine hN _ ?_ | refine hX _ _ ?_ | refine hR _ ?_); (try (clear hG; clear Kg)); clear hN hX hR; clear Kv) | ((conv => whnf); first | (with_reducible first | rfl | exact True.intro | refine (fun (_ : (_ : Prop)) => ?_) | refine And.intro ?_ ?_) | ((with_reducible first | refine hN _ ?_ | refine hX _ _ ?_ | refine hR _ ?_); (try (clear hG; clear Kg)); clear hN hX hR; clear Kv) | (with_reducible first | refine BdS (fun Kv hN hX hR => ?_) | refine Stop.mk ?_ | refine Join.mk ⟨fun Kv hN hX hR => ?_, ?_⟩ | refine DrawJ.each ?_ | exact SubJ.self _) | with_reducible refine SubJ.of ?_ | (with_reducible first | refine FlS (fun Kf hF => ?_) | refine FlN ?_ | refine NdS (fun Kg hG => ?_) | (refine hF _ _ ?_; clear hF; clear Kf) | (refine hG _ _ _ _ ?_; clear hG; clear Kg))))); all_goals (conv => whnf); all_goals (repeat ((try (clear hG; clear Kg)); clear hN hX hR; clear Kv))
  all_goals first
    | (refine ⟨0, ⟨by omega, by simp⟩, ?_⟩
       (repeat' (first | ((with_reducible refine BdI ?_); (first | ((with_reducible refine SqI ?_ (fun Kv hN hX hR => ?_)); (next => exact rfl)) | ((with_reducible refine JnI ?_ ?_); (next => exact rfl)) | (conv => whnf))) | (with_reducible first | refine BdS (fun Kv hN hX hR => ?_) | refine Stop.mk ?_ | refine Join.mk ⟨fun Kv hN hX hR => ?_, ?_⟩ | refine DrawJ.each ?_ | exact SubJ.self _) | with_reducible refine SubJ.of ?_ | (with_reducible first | refine FlS (fun Kf hF => ?_) | refine FlN ?_ | refine NdS (fun Kg hG => ?_) | (refine hF _ _ ?_; clear hF; clear Kf) | (refine hG _ _ _ _ ?_; clear hG; clear Kg)) | ((with_reducible refine SqI ?_ (fun Kv hN hX hR => ?_)); (next => exact rfl)) | ((with_reducible refine JnI ?_ ?_); (next => exact rfl)) | ((with_reducible first | refine hN _ ?_ | refine hX _ _ ?_ | refine hR _ ?_); (try (clear hG; clear Kg)); clear hN hX hR; clear Kv) | ((conv => whnf); first | (with_reducible first | rfl | exact True.intro | intro _ | refine And.intro ?_ ?_) | ((with_reducible first | refine hN _ ?_ | refine hX _ _ ?_ | refine hR _ ?_); (try (clear hG; clear Kg)); clear hN hX hR; clear Kv) | (with_reducible first | refine BdS (fun Kv hN hX hR => ?_) | refine Stop.mk ?_ | refine Join.mk ⟨fun Kv hN hX hR => ?_, ?_⟩ | refine DrawJ.each ?_ | exact SubJ.self _) | with_reducible refine SubJ.of ?_ | (with_reducible first | refine FlS (fun Kf hF => ?_) | refine FlN ?_ | refine NdS (fun Kg hG => ?_) | (refine hF _ _ ?_; clear hF; clear Kf) | (refine hG _ _ _ _ ?_; clear hG; clear Kg))))); all_goals (conv => whnf); all_goals (repeat ((try (clear hG; clear Kg)); clear hN hX hR; clear Kv))
       all_goals rfl)
    | (with_reducible intro i hi
       (repeat' (first | ((with_reducible refine BdI ?_); (first | ((with_reducible refine SqI ?_ (fun Kv hN hX hR => ?_)); (next => exact rfl)) | ((with_reducible refine JnI ?_ ?_); (next => exact rfl)) | (conv => whnf))) | (with_reducible first | refine BdS (fun Kv hN hX hR => ?_) | refine Stop.mk ?_ | refine Join.mk ⟨fun Kv hN hX hR => ?_, ?_⟩ | refine DrawJ.each ?_ | exact SubJ.self _) | with_reducible refine SubJ.of ?_ | (with_reducible first | refine FlS (fun Kf hF => ?_) | refine FlN ?_ | refine NdS (fun Kg hG => ?_) | (refine hF _ _ ?_; clear hF; clear Kf) | (refine hG _ _ _ _ ?_; clear hG; clear Kg)) | ((with_reducible refine SqI ?_ (fun Kv hN hX hR => ?_)); (next => exact rfl)) | ((with_reducible refine JnI ?_ ?_); (next => exact rfl)) | ((with_reducible first | refine hN _ ?_ | refine hX _ _ ?_ | refine hR _ ?_); (try (clear hG; clear Kg)); clear hN hX hR; clear Kv) | ((conv => whnf); first | (with_reducible first | rfl | exact True.intro | intro _ | refine And.intro ?_ ?_) | ((with_reducible first | refine hN _ ?_ | refine hX _ _ ?_ | refine hR _ ?_); (try (clear hG; clear Kg)); clear hN hX hR; clear Kv) | (with_reducible first | refine BdS (fun Kv hN hX hR => ?_) | refine Stop.mk ?_ | refine Join.mk ⟨fun Kv hN hX hR => ?_, ?_⟩ | refine DrawJ.each ?_ | exact SubJ.self _) | with_reducible refine SubJ.of ?_ | (with_reducible first | refine FlS (fun Kf hF => ?_) | refine FlN ?_ | refine NdS (fun Kg hG => ?_) | (refine hF _ _ ?_; clear hF; clear Kf) | (refine hG _ _ _ _ ?_; clear hG; clear Kg))))); all_goals (conv => whnf); all_goals (repeat ((try (clear hG; clear Kg)); clear hN hX hR; clear Kv))
       all_goals (try simp only [Int.toNat_natCast] at *)
       all_goals first
         | exact Ob.mk ⟨by omega, of_decide_eq_true (by with_reducible assumption)⟩
         | (have h := of_decide_eq_true (show decide ((i : Int) < (xs.length : Nat)) = true by with_reducible assumption)
            exact (idxI_at (d := default) (by omega) hi.2 (by with_reducible assumption)).symm)
         | (have h := of_decide_eq_true (show decide ((i : Int) < (xs.length : Nat)) = true by with_reducible assumption)
            refine ⟨i + 1, ⟨by omega, all_take_succ (d := default) (by omega) hi.2 (by with_reducible assumption)⟩, by show xs.length - (i + 1) < xs.length - i; omega, ?_⟩
            (repeat' (first | ((with_reducible refine BdI ?_); (first | ((with_reducible refine SqI ?_ (fun Kv hN hX hR => ?_)); (next => exact rfl)) | ((with_reducible refine JnI ?_ ?_); (next => exact rfl)) | (conv => whnf))) | (with_reducible first | refine BdS (fun Kv hN hX hR => ?_) | refine Stop.mk ?_ | refine Join.mk ⟨fun Kv hN hX hR => ?_, ?_⟩ | refine DrawJ.each ?_ | exact SubJ.self _) | with_reducible refine SubJ.of ?_ | (with_reducible first | refine FlS (fun Kf hF => ?_) | refine FlN ?_ | refine NdS (fun Kg hG => ?_) | (refine hF _ _ ?_; clear hF; clear Kf) | (refine hG _ _ _ _ ?_; clear hG; clear Kg)) | ((with_reducible refine SqI ?_ (fun Kv hN hX hR => ?_)); (next => exact rfl)) | ((with_reducible refine JnI ?_ ?_); (next => exact rfl)) | ((with_reducible first | refine hN _ ?_ | refine hX _ _ ?_ | refine hR _ ?_); (try (clear hG; clear Kg)); clear hN hX hR; clear Kv) | ((conv => whnf); first | (with_reducible first | rfl | exact True.intro | intro _ | refine And.intro ?_ ?_) | ((with_reducible first | refine hN _ ?_ | refine hX _ _ ?_ | refine hR _ ?_); (try (clear hG; clear Kg)); clear hN hX hR; clear Kv) | (with_reducible first | refine BdS (fun Kv hN hX hR => ?_) | refine Stop.mk ?_ | refine Join.mk ⟨fun Kv hN hX hR => ?_, ?_⟩ | refine DrawJ.each ?_ | exact SubJ.self _) | with_reducible refine SubJ.of ?_ | (with_reducible first | refine FlS (fun Kf hF => ?_) | refine FlN ?_ | refine NdS (fun Kg hG => ?_) | (refine hF _ _ ?_; clear hF; clear Kf) | (refine hG _ _ _ _ ?_; clear hG; clear Kg))))); all_goals (conv => whnf); all_goals (repeat ((try (clear hG; clear Kg)); clear hN hX hR; clear Kv))
            all_goals first
              | exact wrapI (by omega) (by omega)
              | rfl)
         | (have h := of_decide_eq_false (show decide ((i : Int) < (xs.length : Nat)) = false by with_reducible assumption)
            have h2 := hi.2
            rw [List.take_of_length_le (by omega)] at h2
            exact (idxI_none h2).symm)
         | trace_state)
    | trace_state
theorem all_no {α : Type} {p : α → Bool} {l : List α} {x : α} (hx : x ∈ l) (h : p x = false) : l.all p = false := List.all_eq_false.2 ⟨x, hx, by rw [h]; simp⟩
theorem k_all : Known Tryz.prog tau 70 (S2 dNodes dInts fun l ids => okB (ids.all (isNd l))) := by
  refine known2 hmix tau_ok (ctx_cons k_At ctx_nil) (fn := Tryz.f70) (by kernel_rfl) [] (by kernel_rfl) _ _ _ fun l xs hfit => ⟨rfl,
    [(2, invN [4, 5, 6, 7, 8, 9, 10, 11, 12, 13, 14, 15, 16, 17, 18] (fun i => i ≤ xs.length ∧ ∀ x ∈ xs.take i, isNd l x = true) (fun i => withS [(5, .int .i64 i)]) (fun i => xs.length - i))], ?_⟩
  have hlen : xs.length * 8 ≤ 140737488355328 := hfit.2.1
  clear hfit
  (repeat' (first | ((with_reducible refine BdI ?_); (first | ((with_reducible refine SqI ?_ (fun Kv hN hX hR => ?_)); (next => exact rfl)) | ((with_reducible refine JnI ?_ ?_); (next => exact rfl)) | (conv => whnf))) | (with_reducible first | refine BdS (fun Kv hN hX hR => ?_) | refine Stop.mk ?_ | refine Join.mk ⟨fun Kv hN hX hR => ?_, ?_⟩ | refine DrawJ.each ?_ | exact SubJ.self _) | with_reducible refine SubJ.of ?_ | (with_reducible first | refine FlS (fun Kf hF => ?_) | refine FlN ?_ | refine NdS (fun Kg hG => ?_) | (refine hF _ _ ?_; clear hF; clear Kf) | (refine hG _ _ _ _ ?_; clear hG; clear Kg)) | ((with_reducible refine SqI ?_ (fun Kv hN hX hR => ?_)); (next => exact rfl)) | ((with_reducible refine JnI ?_ ?_); (next => exact rfl)) | ((with_reducible first | refine hN _ ?_ | refine hX _ _ ?_ | refine hR _ ?_); (try (clear hG; clear Kg)); clear hN hX hR; clear Kv) | ((conv => whnf); first | (with_reducible first | rfl | exact True.intro | refine (fun (_ : (_ : Prop)) => ?_) | refine And.intro ?_ ?_) | ((with_reducible first | refine hN _ ?_ | refine hX _ _ ?_ | refine hR _ ?_); (try (clear hG; clear Kg)); clear hN hX hR; clear Kv) | (with_reducible first | refine BdS (fun Kv hN hX hR => ?_) | refine Stop.mk ?_ | refine Join.mk ⟨fun Kv hN hX hR => ?_, ?_⟩ | refine DrawJ.each ?_ | exact SubJ.self _) | with_reducible refine SubJ.of ?_ | (with_reducible first | refine FlS (fun Kf hF => ?_) | refine FlN ?_ | refine NdS (fun Kg hG => ?_) | (refine hF _ _ ?_; clear hF; clear Kf) | (refine hG _ _ _ _ ?_; clear hG; clear Kg))))); all_goals (conv => whnf); all_goals (repeat ((try (clear hG; clear Kg)); clear hN hX hR; clear Kv))
  all_goals first
    | (refine ⟨0, ⟨by omega, by simp⟩, ?_⟩
       (repeat' (first | ((with_reducible refine BdI ?_); (first | ((with_reducible refine SqI ?_ (fun Kv hN hX hR => ?_)); (next => exact rfl)) | ((with_reducible refine JnI ?_ ?_); (next => exact rfl)) | (conv => whnf))) | (with_reducible first | refine BdS (fun Kv hN hX hR => ?_) | refine Stop.mk ?_ | refine Join.mk ⟨fun Kv hN hX hR => ?_, ?_⟩ | refine DrawJ.each ?_ | exact SubJ.self _) | with_reducible refine SubJ.of ?_ | (with_reducible first | refine FlS (fun Kf hF => ?_) | refine FlN ?_ | refine NdS (fun Kg hG => ?_) | (refine hF _ _ ?_; clear hF; clear Kf) | (refine hG _ _ _ _ ?_; clear hG; clear Kg)) | ((with_reducible refine SqI ?_ (fun Kv hN hX hR => ?_)); (next => exact rfl)) | ((with_reducible refine JnI ?_ ?_); (next => exact rfl)) | ((with_reducible first | refine hN _ ?_ | refine hX _ _ ?_ | refine hR _ ?_); (try (clear hG; clear Kg)); clear hN hX hR; clear Kv) | ((conv => whnf); first | (with_reducible first | rfl | exact True.intro | intro _ | refine And.intro ?_ ?_) | ((with_reducible first | refine hN _ ?_ | refine hX _ _ ?_ | refine hR _ ?_); (try (clear hG; clear Kg)); clear hN hX hR; clear Kv) | (with_reducible first | refine BdS (fun Kv hN hX hR => ?_) | refine Stop.mk ?_ | refine Join.mk ⟨fun Kv hN hX hR => ?_, ?_⟩ | refine DrawJ.each ?_ | exact SubJ.self _) | with_reducible refine SubJ.of ?_ | (with_reducible first | refine FlS (fun Kf hF => ?_) | refine FlN ?_ | refine NdS (fun Kg hG => ?_) | (refine hF _ _ ?_; clear hF; clear Kf) | (refine hG _ _ _ _ ?_; clear hG; clear Kg))))); all_goals (conv => whnf); all_goals (repeat ((try (clear hG; clear Kg)); clear hN hX hR; clear Kv))
       all_goals rfl)
    | (with_reducible intro i hi
       (repeat' (first | ((with_reducible refine BdI ?_); (first | ((with_reducible refine SqI ?_ (fun Kv hN hX hR => ?_)); (next => exact rfl)) | ((with_reducible refine JnI ?_ ?_); (next => exact rfl)) | (conv => whnf))) | (with_reducible first | refine BdS (fun Kv hN hX hR => ?_) | refine Stop.mk ?_ | refine Join.mk ⟨fun Kv hN hX hR => ?_, ?_⟩ | refine DrawJ.each ?_ | exact SubJ.self _) | with_reducible refine SubJ.of ?_ | (with_reducible first | refine FlS (fun Kf hF => ?_) | refine FlN ?_ | refine NdS (fun Kg hG => ?_) | (refine hF _ _ ?_; clear hF; clear Kf) | (refine hG _ _ _ _ ?_; clear hG; clear Kg)) | ((with_reducible refine SqI ?_ (fun Kv hN hX hR => ?_)); (next => exact rfl)) | ((with_reducible refine JnI ?_ ?_); (next => exact rfl)) | ((with_reducible first | refine hN _ ?_ | refine hX _ _ ?_ | refine hR _ ?_); (try (clear hG; clear Kg)); clear hN hX hR; clear Kv) | ((conv => whnf); first | (with_reducible first | rfl | exact True.intro | intro _ | refine And.intro ?_ ?_) | ((with_reducible first | refine hN _ ?_ | refine hX _ _ ?_ | refine hR _ ?_); (try (clear hG; clear Kg)); clear hN hX hR; clear Kv) | (with_reducible first | refine BdS (fun Kv hN hX hR => ?_) | refine Stop.mk ?_ | refine Join.mk ⟨fun Kv hN hX hR => ?_, ?_⟩ | refine DrawJ.each ?_ | exact SubJ.self _) | with_reducible refine SubJ.of ?_ | (with_reducible first | refine FlS (fun Kf hF => ?_) | refine FlN ?_ | refine NdS (fun Kg hG => ?_) | (refine hF _ _ ?_; clear hF; clear Kf) | (refine hG _ _ _ _ ?_; clear hG; clear Kg))))); all_goals (conv => whnf); all_goals (repeat ((try (clear hG; clear Kg)); clear hN hX hR; clear Kv))
       all_goals (try simp only [Int.toNat_natCast, atN_neg] at *)
       all_goals first
         | exact Ob.mk ⟨by omega, of_decide_eq_true (by with_reducible assumption)⟩
         | (have h := of_decide_eq_true (show decide ((i : Int) < (xs.length : Nat)) = true by with_reducible assumption)
            have hm := getD_mem (d := (0 : Int)) (show i < xs.length by omega)
            first
              | exact (all_no hm (nf (by with_reducible assumption))).symm
              | (refine ⟨i + 1, ⟨by omega, all_take_succ (d := 0) (by omega) hi.2 (nt (by with_reducible assumption))⟩, by show xs.length - (i + 1) < xs.length - i; omega, ?_⟩
                 (repeat' (first | ((with_reducible refine BdI ?_); (first | ((with_reducible refine SqI ?_ (fun Kv hN hX hR => ?_)); (next => exact rfl)) | ((with_reducible refine JnI ?_ ?_); (next => exact rfl)) | (conv => whnf))) | (with_reducible first | refine BdS (fun Kv hN hX hR => ?_) | refine Stop.mk ?_ | refine Join.mk ⟨fun Kv hN hX hR => ?_, ?_⟩ | refine DrawJ.each ?_ | exact SubJ.self _) | with_reducible refine SubJ.of ?_ | (with_reducible first | refine FlS (fun Kf hF => ?_) | refine FlN ?_ | refine NdS (fun Kg hG => ?_) | (refine hF _ _ ?_; clear hF; clear Kf) | (refine hG _ _ _ _ ?_; clear hG; clear Kg)) | ((with_reducible refine SqI ?_ (fun Kv hN hX hR => ?_)); (next => exact rfl)) | ((with_reducible refine JnI ?_ ?_); (next => exact rfl)) | ((with_reducible first | refine hN _ ?_ | refine hX _ _ ?_ | refine hR _ ?_); (try (clear hG; clear Kg)); clear hN hX hR; clear Kv) | ((conv => whnf); first | (with_reducible first | rfl | exact True.intro | intro _ | refine And.intro ?_ ?_) | ((with_reducible first | refine hN _ ?_ | refine hX _ _ ?_ | refine hR _ ?_); (try (clear hG; clear Kg)); clear hN hX hR; clear Kv) | (with_reducible first | refine BdS (fun Kv hN hX hR => ?_) | refine Stop.mk ?_ | refine Join.mk ⟨fun Kv hN hX hR => ?_, ?_⟩ | refine DrawJ.each ?_ | exact SubJ.self _) | with_reducible refine SubJ.of ?_ | (with_reducible first | refine FlS (fun Kf hF => ?_) | refine FlN ?_ | refine NdS (fun Kg hG => ?_) | (refine hF _ _ ?_; clear hF; clear Kf) | (refine hG _ _ _ _ ?_; clear hG; clear Kg))))); all_goals (conv => whnf); all_goals (repeat ((try (clear hG; clear Kg)); clear hN hX hR; clear Kv))
                 all_goals first
                   | exact wrapI (by omega) (by omega)
                   | rfl))
         | (have h := of_decide_eq_false (show decide ((i : Int) < (xs.length : Nat)) = false by with_reducible assumption)
            have h2 := hi.2
            rw [List.take_of_length_le (by omega)] at h2
            exact (List.all_eq_true.2 h2).symm)
         | trace_state)
    | trace_state
def packB (ns : List GNode) (m : GMsg) : Bool := (namedM m).all (isNd ns)
theorem packB_eq (ns : List GNode) (m : GMsg) : packB ns m = (isNd ns m.src && (isNd ns m.dst && m.ids.all (isNd ns))) := by
  unfold packB namedM
  rw [List.all_append]
  simp [Bool.and_assoc]
theorem k_packetsMay : Known Tryz.prog tau 58 (S2 dNodes dMsgs fun l ms => okB (ms.all (packB l) && queueB ms)) := by
  refine known2 hmix tau_ok (ctx_cons k_At (ctx_cons k_all (ctx_cons k_refQueueMay ctx_nil))) (fn := Tryz.f58) (by kernel_rfl) [] (by kernel_rfl) _ _ _ fun l xs hfit => ⟨rfl,
    [(2, invN (4 :: 5 :: 6 :: 7 :: 8 :: 9 :: 10 :: 11 :: 12 :: 13 :: 14 :: 15 :: 16 :: 17 :: 18 :: 19 :: 20 :: 21 :: 22 :: 23 :: 24 :: 25 :: 26 :: 27 :: 28 :: 29 :: 30 :: 31 :: 32 :: 33 :: 34 :: 35 :: 36 :: 37 :: 38 :: 39 :: []) (fun i => i ≤ xs.length ∧ ∀ x ∈ xs.take i, packB l x = true) (fun i => withS [(5, .int .i64 i)]) (fun i => xs.length - i))], ?_⟩
  have hlen : xs.length * 104 ≤ 140737488355328 := hfit.2.1.1
  clear hfit
  (repeat' (first | ((with_reducible refine BdI ?_); (first | ((with_reducible refine SqI ?_ (fun Kv hN hX hR => ?_)); (next => exact rfl)) | ((with_reducible refine JnI ?_ ?_); (next => exact rfl)) | (conv => whnf))) | (with_reducible first | refine BdS (fun Kv hN hX hR => ?_) | refine Stop.mk ?_ | refine Join.mk ⟨fun Kv hN hX hR => ?_, ?_⟩ | refine DrawJ.each ?_ | exact SubJ.self _) | with_reducible refine SubJ.of ?_ | (with_reducible first | refine FlS (fun Kf hF => ?_) | refine FlN ?_ | refine NdS (fun Kg hG => ?_) | (refine hF _ _ ?_; clear hF; clear Kf) | (refine hG _ _ _ _ ?_; clear hG; clear Kg)) | ((with_reducible refine SqI ?_ (fun Kv hN hX hR => ?_)); (next => exact rfl)) | ((with_reducible refine JnI ?_ ?_); (next => exact rfl)) | ((with_reducible first | refine hN _ ?_ | refine hX _ _ ?_ | refine hR _ ?_); (try (clear hG; clear Kg)); clear hN hX hR; clear Kv) | ((conv => whnf); first | (with_reducible first | rfl | exact True.intro | refine (fun (_ : (_ : Prop)) => ?_) | refine And.intro ?_ ?_) | ((with_reducible first | refine hN _ ?_ | refine hX _ _ ?_ | refine hR _ ?_); (try (clear hG; clear Kg)); clear hN hX hR; clear Kv) | (with_reducible first | refine BdS (fun Kv hN hX hR => ?_) | refine Stop.mk ?_ | refine Join.mk ⟨fun Kv hN hX hR => ?_, ?_⟩ | refine DrawJ.each ?_ | exact SubJ.self _) | with_reducible refine SubJ.of ?_ | (with_reducible first | refine FlS (fun Kf hF => ?_) | refine FlN ?_ | refine NdS (fun Kg hG => ?_) | (refine hF _ _ ?_; clear hF; clear Kf) | (refine hG _ _ _ _ ?_; clear hG; clear Kg))))); all_goals (conv => whnf); all_goals (repeat ((try (clear hG; clear Kg)); clear hN hX hR; clear Kv))
  all_goals first
    | (refine ⟨0, ⟨by omega, by simp⟩, ?_⟩
       (repeat' (first | ((with_reducible refine BdI ?_); (first | ((with_reducible refine SqI ?_ (fun Kv hN hX hR => ?_)); (next => exact rfl)) | ((with_reducible refine JnI ?_ ?_); (next => exact rfl)) | (conv => whnf))) | (with_reducible first | refine BdS (fun Kv hN hX hR => ?_) | refine Stop.mk ?_ | refine Join.mk ⟨fun Kv hN hX hR => ?_, ?_⟩ | refine DrawJ.each ?_ | exact SubJ.self _) | with_reducible refine SubJ.of ?_ | (with_reducible first | refine FlS (fun Kf hF => ?_) | refine FlN ?_ | refine NdS (fun Kg hG => ?_) | (refine hF _ _ ?_; clear hF; clear Kf) | (refine hG _ _ _ _ ?_; clear hG; clear Kg)) | ((with_reducible refine SqI ?_ (fun Kv hN hX hR => ?_)); (next => exact rfl)) | ((with_reducible refine JnI ?_ ?_); (next => exact rfl)) | ((with_reducible first | refine hN _ ?_ | refine hX _ _ ?_ | refine hR _ ?_); (try (clear hG; clear Kg)); clear hN hX hR; clear Kv) | ((conv => whnf); first | (with_reducible first | rfl | exact True.intro | intro _ | refine And.intro ?_ ?_) | ((with_reducible first | refine hN _ ?_ | refine hX _ _ ?_ | refine hR _ ?_); (try (clear hG; clear Kg)); clear hN hX hR; clear Kv) | (with_reducible first | refine BdS (fun Kv hN hX hR => ?_) | refine Stop.mk ?_ | refine Join.mk ⟨fun Kv hN hX hR => ?_, ?_⟩ | refine DrawJ.each ?_ | exact SubJ.self _) | with_reducible refine SubJ.of ?_ | (with_reducible first | refine FlS (fun Kf hF => ?_) | refine FlN ?_ | refine NdS (fun Kg hG => ?_) | (refine hF _ _ ?_; clear hF; clear Kf) | (refine hG _ _ _ _ ?_; clear hG; clear Kg))))); all_goals (conv => whnf); all_goals (repeat ((try (clear hG; clear Kg)); clear hN hX hR; clear Kv))
       all_goals rfl)
    | (with_reducible intro i hi
       (repeat' (first | ((with_reducible refine BdI ?_); (first | ((with_reducible refine SqI ?_ (fun Kv hN hX hR => ?_)); (next => exact rfl)) | ((with_reducible refine JnI ?_ ?_); (next => exact rfl)) | (conv => whnf))) | (with_reducible first | refine BdS (fun Kv hN hX hR => ?_) | refine Stop.mk ?_ | refine Join.mk ⟨fun Kv hN hX hR => ?_, ?_⟩ | refine DrawJ.each ?_ | exact SubJ.self _) | with_reducible refine SubJ.of ?_ | (with_reducible first | refine FlS (fun Kf hF => ?_) | refine FlN ?_ | refine NdS (fun Kg hG => ?_) | (refine hF _ _ ?_; clear hF; clear Kf) | (refine hG _ _ _ _ ?_; clear hG; clear Kg)) | ((with_reducible refine SqI ?_ (fun Kv hN hX hR => ?_)); (next => exact rfl)) | ((with_reducible refine JnI ?_ ?_); (next => exact rfl)) | ((with_reducible first | refine hN _ ?_ | refine hX _ _ ?_ | refine hR _ ?_); (try (clear hG; clear Kg)); clear hN hX hR; clear Kv) | ((conv => whnf); first | (with_reducible first | rfl | exact True.intro | intro _ | refine And.intro ?_ ?_) | ((with_reducible first | refine hN _ ?_ | refine hX _ _ ?_ | refine hR _ ?_); (try (clear hG; clear Kg)); clear hN hX hR; clear Kv) | (with_reducible first | refine BdS (fun Kv hN hX hR => ?_) | refine Stop.mk ?_ | refine Join.mk ⟨fun Kv hN hX hR => ?_, ?_⟩ | refine DrawJ.each ?_ | exact SubJ.self _) | with_reducible refine SubJ.of ?_ | (with_reducible first | refine FlS (fun Kf hF => ?_) | refine FlN ?_ | refine NdS (fun Kg hG => ?_) | (refine hF _ _ ?_; clear hF; clear Kf) | (refine hG _ _ _ _ ?_; clear hG; clear Kg))))); all_goals (conv => whnf); all_goals (repeat ((try (clear hG; clear Kg)); clear hN hX hR; clear Kv))
       all_goals (try simp only [Int.toNat_natCast, atN_neg] at *)
       all_goals first
         | exact Ob.mk ⟨by omega, of_decide_eq_true (by with_reducible assumption)⟩
         | (have h := of_decide_eq_true (show decide ((i : Int) < (xs.length : Nat)) = true by with_reducible assumption)
            have hm := getD_mem (d := (default : GMsg)) (show i < xs.length by omega)
            have he := packB_eq l (xs.getD i default)
            first
              | (have h1 := nf (show (!isNd l (xs.getD i default).src) = true by with_reducible assumption)
                 rw [h1, Bool.false_and] at he
                 rw [all_no hm he]
                 rfl)
              | (have h1 := nf (show (!isNd l (xs.getD i default).dst) = true by with_reducible assumption)
                 rw [h1, Bool.false_and, Bool.and_false] at he
                 rw [all_no hm he]
                 rfl)
              | (have h1 := nf (show (!(xs.getD i default).ids.all (isNd l)) = true by with_reducible assumption)
                 rw [h1, Bool.and_false, Bool.and_false] at he
                 rw [all_no hm he]
                 rfl)
              | (have h1 := nt (show (!isNd l (xs.getD i default).src) = false by with_reducible assumption)
                 have h2 := nt (show (!isNd l (xs.getD i default).dst) = false by with_reducible assumption)
                 have h3 := nt (show (!(xs.getD i default).ids.all (isNd l)) = false by with_reducible assumption)
                 rw [h1, h2, h3] at he
                 refine ⟨i + 1, ⟨by omega, all_take_succ (d := default) (by omega) hi.2 he⟩, by show xs.length - (i + 1) < xs.length - i; omega, ?_⟩
                 (repeat' (first | ((with_reducible refine BdI ?_); (first | ((with_reducible refine SqI ?_ (fun Kv hN hX hR => ?_)); (next => exact rfl)) | ((with_reducible refine JnI ?_ ?_); (next => exact rfl)) | (conv => whnf))) | (with_reducible first | refine BdS (fun Kv hN hX hR => ?_) | refine Stop.mk ?_ | refine Join.mk ⟨fun Kv hN hX hR => ?_, ?_⟩ | refine DrawJ.each ?_ | exact SubJ.self _) | with_reducible refine SubJ.of ?_ | (with_reducible first | refine FlS (fun Kf hF => ?_) | refine FlN ?_ | refine NdS (fun Kg hG => ?_) | (refine hF _ _ ?_; clear hF; clear Kf) | (refine hG _ _ _ _ ?_; clear hG; clear Kg)) | ((with_reducible refine SqI ?_ (fun Kv hN hX hR => ?_)); (next => exact rfl)) | ((with_reducible refine JnI ?_ ?_); (next => exact rfl)) | ((with_reducible first | refine hN _ ?_ | refine hX _ _ ?_ | refine hR _ ?_); (try (clear hG; clear Kg)); clear hN hX hR; clear Kv) | ((conv => whnf); first | (with_reducible first | rfl | exact True.intro | intro _ | refine And.intro ?_ ?_) | ((with_reducible first | refine hN _ ?_ | refine hX _ _ ?_ | refine hR _ ?_); (try (clear hG; clear Kg)); clear hN hX hR; clear Kv) | (with_reducible first | refine BdS (fun Kv hN hX hR => ?_) | refine Stop.mk ?_ | refine Join.mk ⟨fun Kv hN hX hR => ?_, ?_⟩ | refine DrawJ.each ?_ | exact SubJ.self _) | with_reducible refine SubJ.of ?_ | (with_reducible first | refine FlS (fun Kf hF => ?_) | refine FlN ?_ | refine NdS (fun Kg hG => ?_) | (refine hF _ _ ?_; clear hF; clear Kf) | (refine hG _ _ _ _ ?_; clear hG; clear Kg))))); all_goals (conv => whnf); all_goals (repeat ((try (clear hG; clear Kg)); clear hN hX hR; clear Kv))
                 all_goals first
                   | exact wrapI (by omega) (by omega)
                   | rfl))
         | (have h := of_decide_eq_false (show decide ((i : Int) < (xs.length : Nat)) = false by with_reducible assumption)
            have h2 := hi.2
            rw [List.take_of_length_le (by omega)] at h2
            rw [List.all_eq_true.2 h2]
            rfl)
         | trace_state)
    | trace_state
theorem place_iffC {x : Int} : placeB x = true ↔ 0 ≤ x ∧ x < 256 := by simp [placeB]
theorem lex_iff {p q : GCut} (h1 : cutB p = true) (h2 : cutB q = true) : IntKind.i64.wrap (IntKind.i64.wrap (q.a * 256) + q.b) ≤ IntKind.i64.wrap (IntKind.i64.wrap (p.a * 256) + p.b) ↔ ¬ cutLt p q := by
  unfold cutB at h1 h2
  simp only [Bool.and_eq_true, decide_eq_true_eq] at h1 h2
  have a1 := place_iffC.1 h1.1
  have a2 := place_iffC.1 h1.2.1
  have b1 := place_iffC.1 h2.1
  have b2 := place_iffC.1 h2.2.1
  rw [wrapI (n := q.a * 256) (by omega) (by omega), wrapI (n := p.a * 256) (by omega) (by omega), wrapI (by omega) (by omega), wrapI (by omega) (by omega)]
  unfold cutLt
  omega
set_option maxHeartbeats 8000000 in
theorem k_refCuts : Known Tryz.prog tau 72 (S1 dCuts fun l => okB (cutsB l)) := by
  refine known1 hmix tau_ok (ctx_cons k_refPlace ctx_nil) (fn := Tryz.f72) (by kernel_rfl) [(4, ((0, 0) :: (1, 0) :: (2, 3) :: (3, 4) :: (4, 8) :: (5, 16) :: (6, 32) :: (7, 96) :: (8, 128) :: (9, 128) :: (10, 896) :: (11, 1152) :: (12, 2176) :: (13, 4224) :: (14, 8320) :: (15, 16512) :: (16, 40960) :: (17, 65536) :: (18, 65536) :: (19, 458752) :: (20, 589824) :: (21, 1114112) :: (22, 65536) :: (23, 65536) :: (24, 12648448) :: (25, 16842752) :: (26, 33619968) :: (27, 69271552) :: (28, 134283264) :: (29, 268500992) :: (30, 536870912) :: (31, 1610612736) :: (32, 2684354560) :: (33, 4294967296) :: (34, 4294967296) :: (35, 21474836480) :: (36, 47244640256) :: (37, 73014444032) :: (38, 141733920768) :: (39, 279172874240) :: (40, 4294967296) :: (41, 4294967296) :: (42, 2203318222848) :: (43, 5501853106176) :: (44, 8800387989504) :: (45, 17596481011712) :: (46, 35738422870016) :: (47, 4294967296) :: (48, 4294967296) :: (49, 422216760033280) :: (50, 562954248388608) :: (51, 1125904201809920) :: (52, 2251804108652544) :: (53, 4294967296) :: (54, 4294967296) :: (55, 27021602059190272) :: (56, 36028801313931264) :: (57, 72057598332895232) :: (58, 148618791998193664) :: (59, 288300749190856704) :: (60, 576460757135261696) :: (61, 1152921505143717888) :: []))] (by kernel_rfl) _ _ fun xs hfit => ⟨rfl,
    [(2, invN (2 :: 3 :: 4 :: 5 :: 6 :: 7 :: 8 :: 9 :: 10 :: 11 :: 12 :: 13 :: 14 :: 15 :: 16 :: 17 :: 18 :: 19 :: 20 :: 21 :: 22 :: 23 :: 24 :: 25 :: 26 :: 27 :: 28 :: 29 :: 30 :: 31 :: 32 :: 33 :: 34 :: 35 :: 36 :: 37 :: 38 :: 39 :: 40 :: 41 :: 42 :: 43 :: 44 :: 45 :: 46 :: 47 :: 48 :: 49 :: 50 :: 51 :: 52 :: 53 :: 54 :: 55 :: 56 :: 57 :: 58 :: 59 :: 60 :: 61 :: 62 :: 63 :: 64 :: 65 :: 66 :: 67 :: 68 :: 69 :: 70 :: 71 :: []) (fun i => i ≤ xs.length ∧ (∀ x ∈ xs.take i, cutB x = true) ∧ ∀ t, t + 1 < i → cutLt (xs.getD t default) (xs.getD (t + 1) default)) (fun i => withS [(3, .int .i64 i)]) (fun i => xs.length - i))], ?_⟩
  have hlen : xs.length * 16 ≤ 140737488355328 := hfit.1
  clear hfit
  (repeat' (first | ((with_reducible refine BdI ?_); (first | ((with_reducible refine SqI ?_ (fun Kv hN hX hR => ?_)); (next => exact rfl)) | ((with_reducible refine JnI ?_ ?_); (next => exact rfl)) | (conv => whnf))) | (with_reducible first | refine BdS (fun Kv hN hX hR => ?_) | refine Stop.mk ?_ | refine Join.mk ⟨fun Kv hN hX hR => ?_, ?_⟩ | refine DrawJ.each ?_ | exact SubJ.self _) | with_reducible refine SubJ.of ?_ | (with_reducible first | refine FlS (fun Kf hF => ?_) | refine FlN ?_ | refine NdS (fun Kg hG => ?_) | (refine hF _ _ ?_; clear hF; clear Kf) | (refine hG _ _ _ _ ?_; clear hG; clear Kg)) | ((with_reducible refine SqI ?_ (fun Kv hN hX hR => ?_)); (next => exact rfl)) | ((with_reducible refine JnI ?_ ?_); (next => exact rfl)) | ((with_reducible first | refine hN _ ?_ | refine hX _ _ ?_ | refine hR _ ?_); (try (clear hG; clear Kg)); clear hN hX hR; clear Kv) | ((conv => whnf); first | (with_reducible first | rfl | exact True.intro | refine (fun (_ : (_ : Prop)) => ?_) | refine And.intro ?_ ?_) | ((with_reducible first | refine hN _ ?_ | refine hX _ _ ?_ | refine hR _ ?_); (try (clear hG; clear Kg)); clear hN hX hR; clear Kv) | (with_reducible first | refine BdS (fun Kv hN hX hR => ?_) | refine Stop.mk ?_ | refine Join.mk ⟨fun Kv hN hX hR => ?_, ?_⟩ | refine DrawJ.each ?_ | exact SubJ.self _) | with_reducible refine SubJ.of ?_ | (with_reducible first | refine FlS (fun Kf hF => ?_) | refine FlN ?_ | refine NdS (fun Kg hG => ?_) | (refine hF _ _ ?_; clear hF; clear Kf) | (refine hG _ _ _ _ ?_; clear hG; clear Kg))))); all_goals (conv => whnf); all_goals (repeat ((try (clear hG; clear Kg)); clear hN hX hR; clear Kv))
  all_goals first
    | (refine ⟨0, ⟨by omega, by simp, by intros; omega⟩, ?_⟩
       (repeat' (first | ((with_reducible refine BdI ?_); (first | ((with_reducible refine SqI ?_ (fun Kv hN hX hR => ?_)); (next => exact rfl)) | ((with_reducible refine JnI ?_ ?_); (next => exact rfl)) | (conv => whnf))) | (with_reducible first | refine BdS (fun Kv hN hX hR => ?_) | refine Stop.mk ?_ | refine Join.mk ⟨fun Kv hN hX hR => ?_, ?_⟩ | refine DrawJ.each ?_ | exact SubJ.self _) | with_reducible refine SubJ.of ?_ | (with_reducible first | refine FlS (fun Kf hF => ?_) | refine FlN ?_ | refine NdS (fun Kg hG => ?_) | (refine hF _ _ ?_; clear hF; clear Kf) | (refine hG _ _ _ _ ?_; clear hG; clear Kg)) | ((with_reducible refine SqI ?_ (fun Kv hN hX hR => ?_)); (next => exact rfl)) | ((with_reducible refine JnI ?_ ?_); (next => exact rfl)) | ((with_reducible first | refine hN _ ?_ | refine hX _ _ ?_ | refine hR _ ?_); (try (clear hG; clear Kg)); clear hN hX hR; clear Kv) | ((conv => whnf); first | (with_reducible first | rfl | exact True.intro | intro _ | refine And.intro ?_ ?_) | ((with_reducible first | refine hN _ ?_ | refine hX _ _ ?_ | refine hR _ ?_); (try (clear hG; clear Kg)); clear hN hX hR; clear Kv) | (with_reducible first | refine BdS (fun Kv hN hX hR => ?_) | refine Stop.mk ?_ | refine Join.mk ⟨fun Kv hN hX hR => ?_, ?_⟩ | refine DrawJ.each ?_ | exact SubJ.self _) | with_reducible refine SubJ.of ?_ | (with_reducible first | refine FlS (fun Kf hF => ?_) | refine FlN ?_ | refine NdS (fun Kg hG => ?_) | (refine hF _ _ ?_; clear hF; clear Kf) | (refine hG _ _ _ _ ?_; clear hG; clear Kg))))); all_goals (conv => whnf); all_goals (repeat ((try (clear hG; clear Kg)); clear hN hX hR; clear Kv))
       all_goals rfl)
    | (with_reducible intro i hi
       (repeat' (first | ((with_reducible refine BdI ?_); (first | ((with_reducible refine SqI ?_ (fun Kv hN hX hR => ?_)); (next => exact rfl)) | ((with_reducible refine JnI ?_ ?_); (next => exact rfl)) | (conv => whnf))) | (with_reducible first | refine BdS (fun Kv hN hX hR => ?_) | refine Stop.mk ?_ | refine Join.mk ⟨fun Kv hN hX hR => ?_, ?_⟩ | refine DrawJ.each ?_ | exact SubJ.self _) | with_reducible refine SubJ.of ?_ | (with_reducible first | refine FlS (fun Kf hF => ?_) | refine FlN ?_ | refine NdS (fun Kg hG => ?_) | (refine hF _ _ ?_; clear hF; clear Kf) | (refine hG _ _ _ _ ?_; clear hG; clear Kg)) | ((with_reducible refine SqI ?_ (fun Kv hN hX hR => ?_)); (next => exact rfl)) | ((with_reducible refine JnI ?_ ?_); (next => exact rfl)) | ((with_reducible first | refine hN _ ?_ | refine hX _ _ ?_ | refine hR _ ?_); (try (clear hG; clear Kg)); clear hN hX hR; clear Kv) | ((conv => whnf); first | (with_reducible first | rfl | exact True.intro | intro _ | refine And.intro ?_ ?_) | ((with_reducible first | refine hN _ ?_ | refine hX _ _ ?_ | refine hR _ ?_); (try (clear hG; clear Kg)); clear hN hX hR; clear Kv) | (with_reducible first | refine BdS (fun Kv hN hX hR => ?_) | refine Stop.mk ?_ | refine Join.mk ⟨fun Kv hN hX hR => ?_, ?_⟩ | refine DrawJ.each ?_ | exact SubJ.self _) | with_reducible refine SubJ.of ?_ | (with_reducible first | refine FlS (fun Kf hF => ?_) | refine FlN ?_ | refine NdS (fun Kg hG => ?_) | (refine hF _ _ ?_; clear hF; clear Kf) | (refine hG _ _ _ _ ?_; clear hG; clear Kg))))); all_goals (conv => whnf); all_goals (repeat ((try (clear hG; clear Kg)); clear hN hX hR; clear Kv))
       all_goals (try simp only [Int.toNat_natCast, etaCut] at *)
       all_goals first
         | exact Ob.mk ⟨by omega, of_decide_eq_true (by with_reducible assumption)⟩
         | (have h := of_decide_eq_true (show decide ((i : Int) < (xs.length : Nat)) = true by with_reducible assumption)
            have hmem := getD_mem (l := xs) (i := i) (d := default) (by omega)
            have prev : 0 < i → cutB (xs.getD (i - 1) default) = true := fun h0 => hi.2.1 _ (by
              rw [etaCg (show i - 1 < xs.length by omega), List.mem_take_iff_getElem]
              exact ⟨i - 1, by omega, rfl⟩)
            first
              | (have h0 := of_decide_eq_true (show decide (0 < (i : Int)) = true by with_reducible assumption)
                 have hb := back1 (i := i) (by omega) (by omega)
                 exact Ob.mk (by rw [hb.2]; omega))
              | (have h0 := of_decide_eq_true (show decide (0 < (i : Int)) = true by with_reducible assumption)
                 have hb := back1 (i := i) (by omega) (by omega)
                 exact Ob.mk ⟨by rw [hb.2]; omega, by rw [hb.2]; omega⟩)
              | (have hm := nf (show (!placeB (xs.getD i default).a) = true by with_reducible assumption)
                 refine (cutsB_no ?_).symm
                 rintro ⟨_, _, h3⟩
                 have := h3 _ hmem
                 unfold cutB at this
                 rw [hm] at this
                 simp at this)
              | (have hm := nf (show (!placeB (xs.getD i default).b) = true by with_reducible assumption)
                 refine (cutsB_no ?_).symm
                 rintro ⟨_, _, h3⟩
                 have := h3 _ hmem
                 unfold cutB at this
                 rw [hm] at this
                 simp at this)
              | (have hm := of_decide_eq_true (show decide ((xs.getD i default).b ≤ (xs.getD i default).a) = true by with_reducible assumption)
                 refine (cutsB_no ?_).symm
                 rintro ⟨_, _, h3⟩
                 have := h3 _ hmem
                 unfold cutB at this
                 rw [decide_eq_false (show ¬ (xs.getD i default).a < (xs.getD i default).b by omega)] at this
                 simp at this)
              | (have hp : cutB (xs.getD i default) = true := by
                   unfold cutB
                   rw [nt (show (!placeB (xs.getD i default).a) = false by with_reducible assumption), nt (show (!placeB (xs.getD i default).b) = false by with_reducible assumption)]
                   have hm := of_decide_eq_false (show decide ((xs.getD i default).b ≤ (xs.getD i default).a) = false by with_reducible assumption)
                   rw [decide_eq_true (show (xs.getD i default).a < (xs.getD i default).b by omega)]
                   rfl
                 first
                   | (have h0 := of_decide_eq_true (show decide (0 < (i : Int)) = true by with_reducible assumption)
                      have hb := back1 (i := i) (by omega) (by omega)
                      (try simp only [hb.1] at *)
                      have hlx := lex_iff (prev (by omega)) hp
                      first
                        | (have hm := of_decide_eq_true (show decide (IntKind.i64.wrap (IntKind.i64.wrap ((xs.getD i default).a * 256) + (xs.getD i default).b) ≤ IntKind.i64.wrap (IntKind.i64.wrap ((xs.getD (i - 1) default).a * 256) + (xs.getD (i - 1) default).b)) = true by with_reducible assumption)
                           refine (cutsB_no ?_).symm
                           rintro ⟨_, h2, _⟩
                           exact hlx.1 hm (h2 (i - 1) i (by omega) (by omega)))
                        | (have hm := of_decide_eq_false (show decide (IntKind.i64.wrap (IntKind.i64.wrap ((xs.getD i default).a * 256) + (xs.getD i default).b) ≤ IntKind.i64.wrap (IntKind.i64.wrap ((xs.getD (i - 1) default).a * 256) + (xs.getD (i - 1) default).b)) = false by with_reducible assumption)
                           have hc : cutLt (xs.getD (i - 1) default) (xs.getD i default) := Classical.byContradiction fun g => hm (hlx.2 g)
                           refine ⟨i + 1, ⟨by omega, all_take_succ (d := default) (by omega) hi.2.1 hp, fun t ht => ?_⟩, by show xs.length - (i + 1) < xs.length - i; omega, ?_⟩
                           · rcases Nat.lt_or_eq_of_le (Nat.le_of_lt_succ ht) with h3 | h3
                             · exact hi.2.2 t h3
                             · rw [show t = i - 1 by omega, show i - 1 + 1 = i by omega]
                               exact hc
                           · (repeat' (first | ((with_reducible refine BdI ?_); (first | ((with_reducible refine SqI ?_ (fun Kv hN hX hR => ?_)); (next => exact rfl)) | ((with_reducible refine JnI ?_ ?_); (next => exact rfl)) | (conv => whnf))) | (with_reducible first | refine BdS (fun Kv hN hX hR => ?_) | refine Stop.mk ?_ | refine Join.mk ⟨fun Kv hN hX hR => ?_, ?_⟩ | refine DrawJ.each ?_ | exact SubJ.self _) | with_reducible refine SubJ.of ?_ | (with_reducible first | refine FlS (fun Kf hF => ?_) | refine FlN ?_ | refine NdS (fun Kg hG => ?_) | (refine hF _ _ ?_; clear hF; clear Kf) | (refine hG _ _ _ _ ?_; clear hG; clear Kg)) | ((with_reducible refine SqI ?_ (fun Kv hN hX hR => ?_)); (next => exact rfl)) | ((with_reducible refine JnI ?_ ?_); (next => exact rfl)) | ((with_reducible first | refine hN _ ?_ | refine hX _ _ ?_ | refine hR _ ?_); (try (clear hG; clear Kg)); clear hN hX hR; clear Kv) | ((conv => whnf); first | (with_reducible first | rfl | exact True.intro | intro _ | refine And.intro ?_ ?_) | ((with_reducible first | refine hN _ ?_ | refine hX _ _ ?_ | refine hR _ ?_); (try (clear hG; clear Kg)); clear hN hX hR; clear Kv) | (with_reducible first | refine BdS (fun Kv hN hX hR => ?_) | refine Stop.mk ?_ | refine Join.mk ⟨fun Kv hN hX hR => ?_, ?_⟩ | refine DrawJ.each ?_ | exact SubJ.self _) | with_reducible refine SubJ.of ?_ | (with_reducible first | refine FlS (fun Kf hF => ?_) | refine FlN ?_ | refine NdS (fun Kg hG => ?_) | (refine hF _ _ ?_; clear hF; clear Kf) | (refine hG _ _ _ _ ?_; clear hG; clear Kg))))); all_goals (conv => whnf); all_goals (repeat ((try (clear hG; clear Kg)); clear hN hX hR; clear Kv))
                             all_goals first
                               | exact wrapI (by omega) (by omega)
                               | rfl))
                   | (have h0 := of_decide_eq_false (show decide (0 < (i : Int)) = false by with_reducible assumption)
                      refine ⟨i + 1, ⟨by omega, all_take_succ (d := default) (by omega) hi.2.1 hp, fun t ht => by omega⟩, by show xs.length - (i + 1) < xs.length - i; omega, ?_⟩
                      (repeat' (first | ((with_reducible refine BdI ?_); (first | ((with_reducible refine SqI ?_ (fun Kv hN hX hR => ?_)); (next => exact rfl)) | ((with_reducible refine JnI ?_ ?_); (next => exact rfl)) | (conv => whnf))) | (with_reducible first | refine BdS (fun Kv hN hX hR => ?_) | refine Stop.mk ?_ | refine Join.mk ⟨fun Kv hN hX hR => ?_, ?_⟩ | refine DrawJ.each ?_ | exact SubJ.self _) | with_reducible refine SubJ.of ?_ | (with_reducible first | refine FlS (fun Kf hF => ?_) | refine FlN ?_ | refine NdS (fun Kg hG => ?_) | (refine hF _ _ ?_; clear hF; clear Kf) | (refine hG _ _ _ _ ?_; clear hG; clear Kg)) | ((with_reducible refine SqI ?_ (fun Kv hN hX hR => ?_)); (next => exact rfl)) | ((with_reducible refine JnI ?_ ?_); (next => exact rfl)) | ((with_reducible first | refine hN _ ?_ | refine hX _ _ ?_ | refine hR _ ?_); (try (clear hG; clear Kg)); clear hN hX hR; clear Kv) | ((conv => whnf); first | (with_reducible first | rfl | exact True.intro | intro _ | refine And.intro ?_ ?_) | ((with_reducible first | refine hN _ ?_ | refine hX _ _ ?_ | refine hR _ ?_); (try (clear hG; clear Kg)); clear hN hX hR; clear Kv) | (with_reducible first | refine BdS (fun Kv hN hX hR => ?_) | refine Stop.mk ?_ | refine Join.mk ⟨fun Kv hN hX hR => ?_, ?_⟩ | refine DrawJ.each ?_ | exact SubJ.self _) | with_reducible refine SubJ.of ?_ | (with_reducible first | refine FlS (fun Kf hF => ?_) | refine FlN ?_ | refine NdS (fun Kg hG => ?_) | (refine hF _ _ ?_; clear hF; clear Kf) | (refine hG _ _ _ _ ?_; clear hG; clear Kg))))); all_goals (conv => whnf); all_goals (repeat ((try (clear hG; clear Kg)); clear hN hX hR; clear Kv))
                      all_goals first
                        | exact wrapI (by omega) (by omega)
                        | rfl)
                   | trace_state))
         | (have h := of_decide_eq_false (show decide ((i : Int) < (xs.length : Nat)) = false by with_reducible assumption)
            obtain rfl : i = xs.length := by omega
            have h2 := hi.2.1
            rw [List.take_of_length_le (Nat.le_refl _)] at h2
            have h3 := risingCt_adj hi.2.2
            by_cases h4 : xs.length ≤ 32
            · rw [cutsB_iff.2 ⟨h4, h3, h2⟩]
              exact decide_eq_true (by omega)
            · rw [cutsB_no (fun h => h4 h.1)]
              exact decide_eq_false (by omega))
         | trace_state)
    | trace_state
theorem named_split (w : GWorld) : (namedW w).all (isNd w.nodes) = (w.nodes.all (fun n => (namedN n).all (isNd w.nodes)) && (w.cuts.all (fun c => (namedC c).all (isNd w.nodes)) && w.packets.all (packB w.nodes))) := by
  unfold namedW
  rw [List.all_append, List.all_append, List.all_flatMap, List.all_flatMap, List.all_flatMap, Bool.and_assoc]
  rfl
theorem namedN_all (ns : List GNode) (n : GNode) : (namedN n).all (isNd ns) = ((namesP n.view.peers).all (isNd ns) && n.view.passive.all (isNd ns)) := List.all_append
theorem namedC_all (ns : List GNode) (c : GCut) : (namedC c).all (isNd ns) = (isNd ns c.a && isNd ns c.b) := by simp [namedC]
set_option maxHeartbeats 8000000 in
theorem k_refWorldMay : Known Tryz.prog tau 25 (S1 dWorld fun w => okB (worldB w)) := by
  refine known1 hmix tau_ok (ctx_cons k_refNode (ctx_cons k_refNames (ctx_cons k_all (ctx_cons k_At (ctx_cons k_refCuts (ctx_cons k_packetsMay ctx_nil)))))) (fn := Tryz.f25) (by kernel_rfl) [(5, ((0, 0) :: (1, 1) :: (2, 2) :: (3, 6) :: (4, 8) :: (5, 24) :: (6, 40) :: (7, 64) :: (8, 192) :: (9, 64) :: (10, 576) :: (11, 1344) :: (12, 2112) :: (13, 4160) :: (14, 8256) :: (15, 64) :: (16, 32832) :: (17, 65600) :: (18, 147520) :: (19, 262216) :: (20, 524296) :: (21, 1048640) :: (22, 2097152) :: (23, 6291456) :: (24, 2097152) :: (25, 18874368) :: (26, 35651584) :: (27, 69206016) :: (28, 144703488) :: (29, 270532608) :: (30, 538968064) :: (31, 1342177280) :: (32, 2147483648) :: (33, 6442450944) :: (34, 2147483648) :: (35, 19327352832) :: (36, 36507222016) :: (37, 79456894976) :: (38, 139586437120) :: (39, 277025390592) :: [])), (10, [(0, 0), (1, 1), (2, 0), (3, 4), (4, 0), (5, 24), (6, 32), (7, 64), (8, 130), (9, 256), (10, 768), (11, 1024), (12, 3072), (13, 1024), (14, 9216), (15, 1024), (16, 50176), (17, 66560), (18, 132096), (19, 267264), (20, 525312), (21, 1049600)])] (by kernel_rfl) _ _ fun w hfit => ⟨rfl,
    [(2, invN (2 :: 3 :: 4 :: 6 :: 7 :: 8 :: 9 :: 10 :: 11 :: 12 :: 13 :: 14 :: 15 :: 16 :: 17 :: 18 :: 19 :: 20 :: 21 :: 22 :: 23 :: 24 :: 25 :: 26 :: 27 :: 28 :: 29 :: 30 :: 31 :: 32 :: 33 :: 34 :: 35 :: 36 :: 37 :: 38 :: 39 :: 40 :: 41 :: 42 :: 43 :: 44 :: 45 :: 46 :: 47 :: 48 :: 49 :: 50 :: 51 :: 52 :: 53 :: 54 :: 55 :: 56 :: 57 :: []) (fun i => i ≤ w.nodes.length ∧ (∀ x ∈ w.nodes.take i, nodeB x = true ∧ (namedN x).all (isNd w.nodes) = true) ∧ ∀ t, t + 1 < i → (w.nodes.getD t default).view.id < (w.nodes.getD (t + 1) default).view.id) (fun i => withS [(3, .int .i64 i)]) (fun i => w.nodes.length - i)),
     (8, invN (2 :: 5 :: 58 :: 59 :: 60 :: 61 :: 62 :: 63 :: 64 :: 65 :: 66 :: 67 :: 68 :: 69 :: 70 :: 71 :: 72 :: 73 :: 74 :: 75 :: 76 :: 77 :: 78 :: 79 :: 80 :: 81 :: 82 :: 83 :: 84 :: 85 :: 86 :: []) (fun i => i ≤ w.cuts.length ∧ (∀ x ∈ w.cuts.take i, (namedC x).all (isNd w.nodes) = true)) (fun i => withS [(5, .int .i64 i)]) (fun i => w.cuts.length - i))], ?_⟩
  have hlen : w.nodes.length * 112 ≤ 140737488355328 := hfit.1.1.1
  have hlen2 : w.cuts.length * 16 ≤ 140737488355328 := hfit.1.2.1
  clear hfit
  have no1 : ∀ n ∈ w.nodes, nodeB n = false → worldB w = false := fun n hn h => worldB_no fun g => by
    have := (nodesB_iff.1 g.1).2.2.2 n hn
    rw [h] at this
    simp at this
  have no2 : ∀ n ∈ w.nodes, (namedN n).all (isNd w.nodes) = false → worldB w = false := fun n hn h => worldB_no fun g => by
    have := g.2.2.2
    rw [named_split, all_no hn h] at this
    simp at this
  have no3 : ∀ c ∈ w.cuts, (namedC c).all (isNd w.nodes) = false → worldB w = false := fun c hc h => worldB_no fun g => by
    have := g.2.2.2
    rw [named_split, all_no hc h] at this
    simp at this
  (repeat' (first | ((with_reducible refine BdI ?_); (first | ((with_reducible refine SqI ?_ (fun Kv hN hX hR => ?_)); (next => exact rfl)) | ((with_reducible refine JnI ?_ ?_); (next => exact rfl)) | (conv => whnf))) | (with_reducible first | refine BdS (fun Kv hN hX hR => ?_) | refine Stop.mk ?_ | refine Join.mk ⟨fun Kv hN hX hR => ?_, ?_⟩ | refine DrawJ.each ?_ | exact SubJ.self _) | with_reducible refine SubJ.of ?_ | (with_reducible first | refine FlS (fun Kf hF => ?_) | refine FlN ?_ | refine NdS (fun Kg hG => ?_) | (refine hF _ _ ?_; clear hF; clear Kf) | (refine hG _ _ _ _ ?_; clear hG; clear Kg)) | ((with_reducible refine SqI ?_ (fun Kv hN hX hR => ?_)); (next => exact rfl)) | ((with_reducible refine JnI ?_ ?_); (next => exact rfl)) | ((with_reducible first | refine hN _ ?_ | refine hX _ _ ?_ | refine hR _ ?_); (try (clear hG; clear Kg)); clear hN hX hR; clear Kv) | ((conv => whnf); first | (with_reducible first | rfl | exact True.intro | refine (fun (_ : (_ : Prop)) => ?_) | refine And.intro ?_ ?_) | ((with_reducible first | refine hN _ ?_ | refine hX _ _ ?_ | refine hR _ ?_); (try (clear hG; clear Kg)); clear hN hX hR; clear Kv) | (with_reducible first | refine BdS (fun Kv hN hX hR => ?_) | refine Stop.mk ?_ | refine Join.mk ⟨fun Kv hN hX hR => ?_, ?_⟩ | refine DrawJ.each ?_ | exact SubJ.self _) | with_reducible refine SubJ.of ?_ | (with_reducible first | refine FlS (fun Kf hF => ?_) | refine FlN ?_ | refine NdS (fun Kg hG => ?_) | (refine hF _ _ ?_; clear hF; clear Kf) | (refine hG _ _ _ _ ?_; clear hG; clear Kg))))); all_goals (conv => whnf); all_goals (repeat ((try (clear hG; clear Kg)); clear hN hX hR; clear Kv))
  all_goals first
    | (refine ⟨0, ⟨by omega, by simp, by intros; omega⟩, ?_⟩
       (repeat' (first | ((with_reducible refine BdI ?_); (first | ((with_reducible refine SqI ?_ (fun Kv hN hX hR => ?_)); (next => exact rfl)) | ((with_reducible refine JnI ?_ ?_); (next => exact rfl)) | (conv => whnf))) | (with_reducible first | refine BdS (fun Kv hN hX hR => ?_) | refine Stop.mk ?_ | refine Join.mk ⟨fun Kv hN hX hR => ?_, ?_⟩ | refine DrawJ.each ?_ | exact SubJ.self _) | with_reducible refine SubJ.of ?_ | (with_reducible first | refine FlS (fun Kf hF => ?_) | refine FlN ?_ | refine NdS (fun Kg hG => ?_) | (refine hF _ _ ?_; clear hF; clear Kf) | (refine hG _ _ _ _ ?_; clear hG; clear Kg)) | ((with_reducible refine SqI ?_ (fun Kv hN hX hR => ?_)); (next => exact rfl)) | ((with_reducible refine JnI ?_ ?_); (next => exact rfl)) | ((with_reducible first | refine hN _ ?_ | refine hX _ _ ?_ | refine hR _ ?_); (try (clear hG; clear Kg)); clear hN hX hR; clear Kv) | ((conv => whnf); first | (with_reducible first | rfl | exact True.intro | intro _ | refine And.intro ?_ ?_) | ((with_reducible first | refine hN _ ?_ | refine hX _ _ ?_ | refine hR _ ?_); (try (clear hG; clear Kg)); clear hN hX hR; clear Kv) | (with_reducible first | refine BdS (fun Kv hN hX hR => ?_) | refine Stop.mk ?_ | refine Join.mk ⟨fun Kv hN hX hR => ?_, ?_⟩ | refine DrawJ.each ?_ | exact SubJ.self _) | with_reducible refine SubJ.of ?_ | (with_reducible first | refine FlS (fun Kf hF => ?_) | refine FlN ?_ | refine NdS (fun Kg hG => ?_) | (refine hF _ _ ?_; clear hF; clear Kf) | (refine hG _ _ _ _ ?_; clear hG; clear Kg))))); all_goals (conv => whnf); all_goals (repeat ((try (clear hG; clear Kg)); clear hN hX hR; clear Kv))
       all_goals rfl)
    | (with_reducible intro i hi
       (repeat' (first | ((with_reducible refine BdI ?_); (first | ((with_reducible refine SqI ?_ (fun Kv hN hX hR => ?_)); (next => exact rfl)) | ((with_reducible refine JnI ?_ ?_); (next => exact rfl)) | (conv => whnf))) | (with_reducible first | refine BdS (fun Kv hN hX hR => ?_) | refine Stop.mk ?_ | refine Join.mk ⟨fun Kv hN hX hR => ?_, ?_⟩ | refine DrawJ.each ?_ | exact SubJ.self _) | with_reducible refine SubJ.of ?_ | (with_reducible first | refine FlS (fun Kf hF => ?_) | refine FlN ?_ | refine NdS (fun Kg hG => ?_) | (refine hF _ _ ?_; clear hF; clear Kf) | (refine hG _ _ _ _ ?_; clear hG; clear Kg)) | ((with_reducible refine SqI ?_ (fun Kv hN hX hR => ?_)); (next => exact rfl)) | ((with_reducible refine JnI ?_ ?_); (next => exact rfl)) | ((with_reducible first | refine hN _ ?_ | refine hX _ _ ?_ | refine hR _ ?_); (try (clear hG; clear Kg)); clear hN hX hR; clear Kv) | ((conv => whnf); first | (with_reducible first | rfl | exact True.intro | refine (fun (_ : (_ : Prop)) => ?_) | refine And.intro ?_ ?_) | ((with_reducible first | refine hN _ ?_ | refine hX _ _ ?_ | refine hR _ ?_); (try (clear hG; clear Kg)); clear hN hX hR; clear Kv) | (with_reducible first | refine BdS (fun Kv hN hX hR => ?_) | refine Stop.mk ?_ | refine Join.mk ⟨fun Kv hN hX hR => ?_, ?_⟩ | refine DrawJ.each ?_ | exact SubJ.self _) | with_reducible refine SubJ.of ?_ | (with_reducible first | refine FlS (fun Kf hF => ?_) | refine FlN ?_ | refine NdS (fun Kg hG => ?_) | (refine hF _ _ ?_; clear hF; clear Kf) | (refine hG _ _ _ _ ?_; clear hG; clear Kg))))); all_goals (conv => whnf); all_goals (repeat ((try (clear hG; clear Kg)); clear hN hX hR; clear Kv))
       all_goals (try simp only [Int.toNat_natCast, etaNd] at *)
       all_goals first
         | exact Ob.mk ⟨by omega, of_decide_eq_true (by with_reducible assumption)⟩
         | (have h := of_decide_eq_true (show decide ((i : Int) < (w.nodes.length : Nat)) = true by with_reducible assumption)
            have hmem := getD_mem (l := w.nodes) (i := i) (d := default) (by omega)
            have he := namedN_all w.nodes (w.nodes.getD i default)
            first
              | (have h0 := of_decide_eq_true (show decide (0 < (i : Int)) = true by with_reducible assumption)
                 have hb := back1 (i := i) (by omega) (by omega)
                 exact Ob.mk (by rw [hb.2]; omega))
              | exact (no1 _ hmem (nf (by with_reducible assumption))).symm
              | (have h1 := nf (show (!(namesP (w.nodes.getD i default).view.peers).all (isNd w.nodes)) = true by with_reducible assumption)
                 rw [h1, Bool.false_and] at he
                 exact (no2 _ hmem he).symm)
              | (have h1 := nf (show (!(w.nodes.getD i default).view.passive.all (isNd w.nodes)) = true by with_reducible assumption)
                 rw [h1, Bool.and_false] at he
                 exact (no2 _ hmem he).symm)
              | (have h0 := of_decide_eq_true (show decide (0 < (i : Int)) = true by with_reducible assumption)
                 have hb := back1 (i := i) (by omega) (by omega)
                 have hm := of_decide_eq_true (show decide ((w.nodes.getD i default).view.id ≤ (w.nodes.getD (IntKind.i64.wrap ((i : Int) - 1)).toNat default).view.id) = true by with_reducible assumption)
                 rw [hb.1] at hm
                 refine (worldB_no fun g => ?_).symm
                 have := (nodesB_iff.1 g.1).2.2.1 (i - 1) i (by omega) (by omega)
                 omega)
              | (have hp := nt (show (!nodeB (w.nodes.getD i default)) = false by with_reducible assumption)
                 have h1 := nt (show (!(namesP (w.nodes.getD i default).view.peers).all (isNd w.nodes)) = false by with_reducible assumption)
                 have h2 := nt (show (!(w.nodes.getD i default).view.passive.all (isNd w.nodes)) = false by with_reducible assumption)
                 rw [h1, h2] at he
                 refine ⟨i + 1, ⟨by omega, all_take_succ (d := default) (by omega) hi.2.1 ⟨hp, he⟩, fun t ht => ?_⟩, by show w.nodes.length - (i + 1) < w.nodes.length - i; omega, ?_⟩
                 · rcases Nat.lt_or_eq_of_le (Nat.le_of_lt_succ ht) with h3 | h3
                   · exact hi.2.2 t h3
                   · first
                       | (have h0 := of_decide_eq_false (show decide (0 < (i : Int)) = false by with_reducible assumption)
                          omega)
                       | (have hb := back1 (i := i) (by omega) (by omega)
                          have hm := of_decide_eq_false (show decide ((w.nodes.getD i default).view.id ≤ (w.nodes.getD (IntKind.i64.wrap ((i : Int) - 1)).toNat default).view.id) = false by with_reducible assumption)
                          rw [hb.1] at hm
                          rw [show t = i - 1 by omega, show i - 1 + 1 = i by omega]
                          omega)
                 · (repeat' (first | ((with_reducible refine BdI ?_); (first | ((with_reducible refine SqI ?_ (fun Kv hN hX hR => ?_)); (next => exact rfl)) | ((with_reducible refine JnI ?_ ?_); (next => exact rfl)) | (conv => whnf))) | (with_reducible first | refine BdS (fun Kv hN hX hR => ?_) | refine Stop.mk ?_ | refine Join.mk ⟨fun Kv hN hX hR => ?_, ?_⟩ | refine DrawJ.each ?_ | exact SubJ.self _) | with_reducible refine SubJ.of ?_ | (with_reducible first | refine FlS (fun Kf hF => ?_) | refine FlN ?_ | refine NdS (fun Kg hG => ?_) | (refine hF _ _ ?_; clear hF; clear Kf) | (refine hG _ _ _ _ ?_; clear hG; clear Kg)) | ((with_reducible refine SqI ?_ (fun Kv hN hX hR => ?_)); (next => exact rfl)) | ((with_reducible refine JnI ?_ ?_); (next => exact rfl)) | ((with_reducible first | refine hN _ ?_ | refine hX _ _ ?_ | refine hR _ ?_); (try (clear hG; clear Kg)); clear hN hX hR; clear Kv) | ((conv => whnf); first | (with_reducible first | rfl | exact True.intro | intro _ | refine And.intro ?_ ?_) | ((with_reducible first | refine hN _ ?_ | refine hX _ _ ?_ | refine hR _ ?_); (try (clear hG; clear Kg)); clear hN hX hR; clear Kv) | (with_reducible first | refine BdS (fun Kv hN hX hR => ?_) | refine Stop.mk ?_ | refine Join.mk ⟨fun Kv hN hX hR => ?_, ?_⟩ | refine DrawJ.each ?_ | exact SubJ.self _) | with_reducible refine SubJ.of ?_ | (with_reducible first | refine FlS (fun Kf hF => ?_) | refine FlN ?_ | refine NdS (fun Kg hG => ?_) | (refine hF _ _ ?_; clear hF; clear Kf) | (refine hG _ _ _ _ ?_; clear hG; clear Kg))))); all_goals (conv => whnf); all_goals (repeat ((try (clear hG; clear Kg)); clear hN hX hR; clear Kv))
                   all_goals first
                     | exact wrapI (by omega) (by omega)
                     | rfl)
              | trace_state)
         | (refine ⟨0, ⟨by omega, by simp⟩, ?_⟩
            (repeat' (first | ((with_reducible refine BdI ?_); (first | ((with_reducible refine SqI ?_ (fun Kv hN hX hR => ?_)); (next => exact rfl)) | ((with_reducible refine JnI ?_ ?_); (next => exact rfl)) | (conv => whnf))) | (with_reducible first | refine BdS (fun Kv hN hX hR => ?_) | refine Stop.mk ?_ | refine Join.mk ⟨fun Kv hN hX hR => ?_, ?_⟩ | refine DrawJ.each ?_ | exact SubJ.self _) | with_reducible refine SubJ.of ?_ | (with_reducible first | refine FlS (fun Kf hF => ?_) | refine FlN ?_ | refine NdS (fun Kg hG => ?_) | (refine hF _ _ ?_; clear hF; clear Kf) | (refine hG _ _ _ _ ?_; clear hG; clear Kg)) | ((with_reducible refine SqI ?_ (fun Kv hN hX hR => ?_)); (next => exact rfl)) | ((with_reducible refine JnI ?_ ?_); (next => exact rfl)) | ((with_reducible first | refine hN _ ?_ | refine hX _ _ ?_ | refine hR _ ?_); (try (clear hG; clear Kg)); clear hN hX hR; clear Kv) | ((conv => whnf); first | (with_reducible first | rfl | exact True.intro | intro _ | refine And.intro ?_ ?_) | ((with_reducible first | refine hN _ ?_ | refine hX _ _ ?_ | refine hR _ ?_); (try (clear hG; clear Kg)); clear hN hX hR; clear Kv) | (with_reducible first | refine BdS (fun Kv hN hX hR => ?_) | refine Stop.mk ?_ | refine Join.mk ⟨fun Kv hN hX hR => ?_, ?_⟩ | refine DrawJ.each ?_ | exact SubJ.self _) | with_reducible refine SubJ.of ?_ | (with_reducible first | refine FlS (fun Kf hF => ?_) | refine FlN ?_ | refine NdS (fun Kg hG => ?_) | (refine hF _ _ ?_; clear hF; clear Kf) | (refine hG _ _ _ _ ?_; clear hG; clear Kg))))); all_goals (conv => whnf); all_goals (repeat ((try (clear hG; clear Kg)); clear hN hX hR; clear Kv))
            all_goals rfl)
         | (have h := of_decide_eq_false (show decide ((i : Int) < (w.nodes.length : Nat)) = false by with_reducible assumption)
            obtain rfl : i = w.nodes.length := by omega
            have n2 := hi.2.1
            rw [List.take_of_length_le (Nat.le_refl _)] at n2
            have n3 := risingN_adj hi.2.2
            have n4 : w.nodes.all (fun n => (namedN n).all (isNd w.nodes)) = true := List.all_eq_true.2 fun n hn => (n2 n hn).2
            with_reducible intro j hj
            (repeat' (first | ((with_reducible refine BdI ?_); (first | ((with_reducible refine SqI ?_ (fun Kv hN hX hR => ?_)); (next => exact rfl)) | ((with_reducible refine JnI ?_ ?_); (next => exact rfl)) | (conv => whnf))) | (with_reducible first | refine BdS (fun Kv hN hX hR => ?_) | refine Stop.mk ?_ | refine Join.mk ⟨fun Kv hN hX hR => ?_, ?_⟩ | refine DrawJ.each ?_ | exact SubJ.self _) | with_reducible refine SubJ.of ?_ | (with_reducible first | refine FlS (fun Kf hF => ?_) | refine FlN ?_ | refine NdS (fun Kg hG => ?_) | (refine hF _ _ ?_; clear hF; clear Kf) | (refine hG _ _ _ _ ?_; clear hG; clear Kg)) | ((with_reducible refine SqI ?_ (fun Kv hN hX hR => ?_)); (next => exact rfl)) | ((with_reducible refine JnI ?_ ?_); (next => exact rfl)) | ((with_reducible first | refine hN _ ?_ | refine hX _ _ ?_ | refine hR _ ?_); (try (clear hG; clear Kg)); clear hN hX hR; clear Kv) | ((conv => whnf); first | (with_reducible first | rfl | exact True.intro | intro _ | refine And.intro ?_ ?_) | ((with_reducible first | refine hN _ ?_ | refine hX _ _ ?_ | refine hR _ ?_); (try (clear hG; clear Kg)); clear hN hX hR; clear Kv) | (with_reducible first | refine BdS (fun Kv hN hX hR => ?_) | refine Stop.mk ?_ | refine Join.mk ⟨fun Kv hN hX hR => ?_, ?_⟩ | refine DrawJ.each ?_ | exact SubJ.self _) | with_reducible refine SubJ.of ?_ | (with_reducible first | refine FlS (fun Kf hF => ?_) | refine FlN ?_ | refine NdS (fun Kg hG => ?_) | (refine hF _ _ ?_; clear hF; clear Kf) | (refine hG _ _ _ _ ?_; clear hG; clear Kg))))); all_goals (conv => whnf); all_goals (repeat ((try (clear hG; clear Kg)); clear hN hX hR; clear Kv))
            all_goals (try simp only [Int.toNat_natCast, atN_neg] at *)
            all_goals first
              | exact Ob.mk ⟨by omega, of_decide_eq_true (by with_reducible assumption)⟩
              | (have h := of_decide_eq_true (show decide ((j : Int) < (w.cuts.length : Nat)) = true by with_reducible assumption)
                 have hmem := getD_mem (l := w.cuts) (i := j) (d := default) (by omega)
                 have he := namedC_all w.nodes (w.cuts.getD j default)
                 first
                   | (have h1 := nf (show (!isNd w.nodes (w.cuts.getD j default).a) = true by with_reducible assumption)
                      rw [h1, Bool.false_and] at he
                      exact (no3 _ hmem he).symm)
                   | (have h1 := nf (show (!isNd w.nodes (w.cuts.getD j default).b) = true by with_reducible assumption)
                      rw [h1, Bool.and_false] at he
                      exact (no3 _ hmem he).symm)
                   | (have h1 := nt (show (!isNd w.nodes (w.cuts.getD j default).a) = false by with_reducible assumption)
                      have h2 := nt (show (!isNd w.nodes (w.cuts.getD j default).b) = false by with_reducible assumption)
                      rw [h1, h2] at he
                      refine ⟨j + 1, ⟨by omega, all_take_succ (d := default) (by omega) hj.2 he⟩, by show w.cuts.length - (j + 1) < w.cuts.length - j; omega, ?_⟩
                      (repeat' (first | ((with_reducible refine BdI ?_); (first | ((with_reducible refine SqI ?_ (fun Kv hN hX hR => ?_)); (next => exact rfl)) | ((with_reducible refine JnI ?_ ?_); (next => exact rfl)) | (conv => whnf))) | (with_reducible first | refine BdS (fun Kv hN hX hR => ?_) | refine Stop.mk ?_ | refine Join.mk ⟨fun Kv hN hX hR => ?_, ?_⟩ | refine DrawJ.each ?_ | exact SubJ.self _) | with_reducible refine SubJ.of ?_ | (with_reducible first | refine FlS (fun Kf hF => ?_) | refine FlN ?_ | refine NdS (fun Kg hG => ?_) | (refine hF _ _ ?_; clear hF; clear Kf) | (refine hG _ _ _ _ ?_; clear hG; clear Kg)) | ((with_reducible refine SqI ?_ (fun Kv hN hX hR => ?_)); (next => exact rfl)) | ((with_reducible refine JnI ?_ ?_); (next => exact rfl)) | ((with_reducible first | refine hN _ ?_ | refine hX _ _ ?_ | refine hR _ ?_); (try (clear hG; clear Kg)); clear hN hX hR; clear Kv) | ((conv => whnf); first | (with_reducible first | rfl | exact True.intro | intro _ | refine And.intro ?_ ?_) | ((with_reducible first | refine hN _ ?_ | refine hX _ _ ?_ | refine hR _ ?_); (try (clear hG; clear Kg)); clear hN hX hR; clear Kv) | (with_reducible first | refine BdS (fun Kv hN hX hR => ?_) | refine Stop.mk ?_ | refine Join.mk ⟨fun Kv hN hX hR => ?_, ?_⟩ | refine DrawJ.each ?_ | exact SubJ.self _) | with_reducible refine SubJ.of ?_ | (with_reducible first | refine FlS (fun Kf hF => ?_) | refine FlN ?_ | refine NdS (fun Kg hG => ?_) | (refine hF _ _ ?_; clear hF; clear Kf) | (refine hG _ _ _ _ ?_; clear hG; clear Kg))))); all_goals (conv => whnf); all_goals (repeat ((try (clear hG; clear Kg)); clear hN hX hR; clear Kv))
                      all_goals first
                        | exact wrapI (by omega) (by omega)
                        | rfl)
                   | trace_state)
              | (have h := of_decide_eq_false (show decide ((j : Int) < (w.cuts.length : Nat)) = false by with_reducible assumption)
                 have c2 := hj.2
                 rw [List.take_of_length_le (by omega)] at c2
                 have c4 : w.cuts.all (fun c => (namedC c).all (isNd w.nodes)) = true := List.all_eq_true.2 c2
                 have hw : worldB w = (nodesB w.nodes && (cutsB w.cuts && (w.packets.all (packB w.nodes) && queueB w.packets))) := by
                   unfold worldB
                   rw [named_split, n4, c4, Bool.true_and, Bool.true_and, Bool.and_comm (queueB w.packets)]
                 rw [hw]
                 first
                   | (have q1 := of_decide_eq_false (show decide ((1 : Int) ≤ (w.nodes.length : Nat)) = false by with_reducible assumption)
                      rw [nodesB_no fun g => by have := g.1; omega]
                      rfl)
                   | (have q2 := of_decide_eq_false (show decide ((w.nodes.length : Int) ≤ 8) = false by with_reducible assumption)
                      rw [nodesB_no fun g => by have := g.2.1; omega]
                      rfl)
                   | (have q1 := of_decide_eq_true (show decide ((1 : Int) ≤ (w.nodes.length : Nat)) = true by with_reducible assumption)
                      have q2 := of_decide_eq_true (show decide ((w.nodes.length : Int) ≤ 8) = true by with_reducible assumption)
                      rw [nodesB_iff.2 ⟨by omega, by omega, n3, fun n hn => (n2 n hn).1⟩]
                      first
                        | (rw [show cutsB w.cuts = true by with_reducible assumption]; rfl)
                        | (rw [show cutsB w.cuts = false by with_reducible assumption]; rfl)
                        | trace_state)
                   | trace_state)
              | trace_state)
         | trace_state)
    | trace_state
end Go.Proofs.YtmhieddhmebfhaaGreat
