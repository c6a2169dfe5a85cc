/- A part of the proof of Ticks: F19b, F19c, F19d, SamePeers, SameItems, SameTolds, G16a, G11a, G19a, P19, P11b, F1m, P19b, VSp, SpInts, SpPeers, G11c, F2m, G12, G12b, ClMsgs, DelMsgs, F14a, F14b, F14c, SpItems, SpTolds, G19e. -/
import Derived.Test.YtmhieddhmebfhaaGreatMLTicks3
import Derived.Below
import Derived.Sort.Row
import Derived.Deep.LoopGhost
import Derived.Lib.Walk
import Derived.CellFam
import Derived.Shelf.RegionOpenPlain
import Derived.Lib.SliceRun
import Derived.Laws.AppendOwn
import Derived.Conc.AppendEvents2
import Derived.WalkKit
import Derived.Deep.RegionLaw
/- Contracts: whose a key is; the next one; nodes' copies. -/
namespace Go.Proofs.YtmhieddhmebfhaaGreat
open Go.RowKit
set_option maxRecDepth 20000
theorem k_Succ1 : Known Tryz.prog tau 122 (S1 dInts fun l => .ob (0 < l.length) (.int .i64 (l.getD 0 0)) []) := by
  refine known1 hmix tau_ok ctx_nil (fn := Tryz.f122) (by kernel_rfl) [] (by kernel_rfl) _ _ fun l hfit hs => ⟨rfl, [], ?_⟩
  clear hfit
  (repeat' (first | ((with_reducible refine BdI ?_); (first | ((with_reducible refine SqI ?_ (fun Kv hN hX hR => ?_)); (next => exact rfl)) | ((with_reducible refine JnI ?_ ?_); (next => exact rfl)) | (conv => whnf))) | (with_reducible first | refine BdS (fun Kv hN hX hR => ?_) | refine Stop.mk ?_ | refine Join.mk ⟨fun Kv hN hX hR => ?_, ?_⟩ | refine DrawJ.each ?_ | exact SubJ.self _) | with_reducible refine SubJ.of ?_ | (with_reducible first | refine FlS (fun Kf hF => ?_) | refine FlN ?_ | refine NdS (fun Kg hG => ?_) | (refine hF _ _ ?_; clear hF; clear Kf) | (refine hG _ _ _ _ ?_; clear hG; clear Kg)) | ((with_reducible refine SqI ?_ (fun Kv hN hX hR => ?_)); (next => exact rfl)) | ((with_reducible refine JnI ?_ ?_); (next => exact rfl)) | ((with_reducible first | refine hN _ ?_ | refine hX _ _ ?_ | refine hR _ ?_); (try (clear hG; clear Kg)); clear hN hX hR; clear Kv) | ((conv => whnf); first | (with_reducible first | rfl | exact True.intro | intro _ | refine And.intro ?_ ?_) | ((with_reducible first | refine hN _ ?_ | refine hX _ _ ?_ | refine hR _ ?_); (try (clear hG; clear Kg)); clear hN hX hR; clear Kv) | (with_reducible first | refine BdS (fun Kv hN hX hR => ?_) | refine Stop.mk ?_ | refine Join.mk ⟨fun Kv hN hX hR => ?_, ?_⟩ | refine DrawJ.each ?_ | exact SubJ.self _) | with_reducible refine SubJ.of ?_ | (with_reducible first | refine FlS (fun Kf hF => ?_) | refine FlN ?_ | refine NdS (fun Kg hG => ?_) | (refine hF _ _ ?_; clear hF; clear Kf) | (refine hG _ _ _ _ ?_; clear hG; clear Kg))))); all_goals (conv => whnf); all_goals (repeat ((try (clear hG; clear Kg)); clear hN hX hR; clear Kv))
  all_goals first
    | exact Ob.mk ⟨by decide, by omega⟩
    | rfl
    | trace_state
noncomputable def succV (v : GView) : Int × Int := Classical.choose (seal_ex (if viewB v = true then (if v.peers.length = 0 then (v.id, (0 : Int)) else ((namesP v.peers).getD 0 0, 0)) else (0, 900)))
theorem succV_def (v : GView) : succV v = if viewB v = true then (if v.peers.length = 0 then (v.id, (0 : Int)) else ((namesP v.peers).getD 0 0, 0)) else (0, 900) := Classical.choose_spec (seal_ex _)
noncomputable def oSucc (v : GView) : Out := .ok (.tup [.int .i64 (succV v).1, .int .i64 (succV v).2]) []
theorem k_end : Known Tryz.prog tau 121 (S2 dView (dFn 122) fun v _ => oSucc v) := by
  refine known2 hmix tau_ok (ctx_cons k_viewMay (ctx_cons k_Ids (ctx_cons k_Succ1 ctx_nil))) (fn := Tryz.f121) (by kernel_rfl) [] (by kernel_rfl) _ _ _ fun v _ hfit => ⟨rfl, [], ?_⟩
  clear hfit
  (repeat' (first | ((with_reducible refine BdI ?_); (first | ((with_reducible refine SqI ?_ (fun Kv hN hX hR => ?_)); (next => exact rfl)) | ((with_reducible refine JnI ?_ ?_); (next => exact rfl)) | (conv => whnf))) | (with_reducible first | refine BdS (fun Kv hN hX hR => ?_) | refine Stop.mk ?_ | refine Join.mk ⟨fun Kv hN hX hR => ?_, ?_⟩ | refine DrawJ.each ?_ | exact SubJ.self _) | with_reducible refine SubJ.of ?_ | (with_reducible first | refine FlS (fun Kf hF => ?_) | refine FlN ?_ | refine NdS (fun Kg hG => ?_) | (refine hF _ _ ?_; clear hF; clear Kf) | (refine hG _ _ _ _ ?_; clear hG; clear Kg)) | ((with_reducible refine SqI ?_ (fun Kv hN hX hR => ?_)); (next => exact rfl)) | ((with_reducible refine JnI ?_ ?_); (next => exact rfl)) | ((with_reducible first | refine hN _ ?_ | refine hX _ _ ?_ | refine hR _ ?_); (try (clear hG; clear Kg)); clear hN hX hR; clear Kv) | ((conv => whnf); first | (with_reducible first | rfl | exact True.intro | intro _ | refine And.intro ?_ ?_) | ((with_reducible first | refine hN _ ?_ | refine hX _ _ ?_ | refine hR _ ?_); (try (clear hG; clear Kg)); clear hN hX hR; clear Kv) | (with_reducible first | refine BdS (fun Kv hN hX hR => ?_) | refine Stop.mk ?_ | refine Join.mk ⟨fun Kv hN hX hR => ?_, ?_⟩ | refine DrawJ.each ?_ | exact SubJ.self _) | with_reducible refine SubJ.of ?_ | (with_reducible first | refine FlS (fun Kf hF => ?_) | refine FlN ?_ | refine NdS (fun Kg hG => ?_) | (refine hF _ _ ?_; clear hF; clear Kf) | (refine hG _ _ _ _ ?_; clear hG; clear Kg))))); all_goals (conv => whnf); all_goals (repeat ((try (clear hG; clear Kg)); clear hN hX hR; clear Kv))
  all_goals (try simp only [etaView] at *)
  all_goals first
    | (have h : viewB v = false := nf (by with_reducible assumption)
       rw [succV_def, if_neg (by rw [h]; simp)]
       done)
    | (have h : viewB v = true := nt (by with_reducible assumption)
       have h2 := of_decide_eq_true (show decide ((v.peers.length : Int) = 0) = true by with_reducible assumption)
       rw [succV_def, if_pos h, if_pos (by omega)]
       done)
    | (have h : viewB v = true := nt (by with_reducible assumption)
       have h2 := of_decide_eq_false (show decide ((v.peers.length : Int) = 0) = false by with_reducible assumption)
       first
         | (refine Ob.mk ?_
            rw [namesP_len]
            omega)
         | (rw [succV_def, if_pos h, if_neg (by omega)]
            done))
    | trace_state
theorem k_Succ : Known Tryz.prog tau 82 (S1 dView oSucc) := by
  refine known1 hmix tau_ok (ctx_cons k_end ctx_nil) (fn := Tryz.f82) (by kernel_rfl) [] (by kernel_rfl) _ _ fun v hfit => ⟨rfl, [], ?_⟩
  clear hfit
  (repeat' (first | ((with_reducible refine BdI ?_); (first | ((with_reducible refine SqI ?_ (fun Kv hN hX hR => ?_)); (next => exact rfl)) | ((with_reducible refine JnI ?_ ?_); (next => exact rfl)) | (conv => whnf))) | (with_reducible first | refine BdS (fun Kv hN hX hR => ?_) | refine Stop.mk ?_ | refine Join.mk ⟨fun Kv hN hX hR => ?_, ?_⟩ | refine DrawJ.each ?_ | exact SubJ.self _) | with_reducible refine SubJ.of ?_ | (with_reducible first | refine FlS (fun Kf hF => ?_) | refine FlN ?_ | refine NdS (fun Kg hG => ?_) | (refine hF _ _ ?_; clear hF; clear Kf) | (refine hG _ _ _ _ ?_; clear hG; clear Kg)) | ((with_reducible refine SqI ?_ (fun Kv hN hX hR => ?_)); (next => exact rfl)) | ((with_reducible refine JnI ?_ ?_); (next => exact rfl)) | ((with_reducible first | refine hN _ ?_ | refine hX _ _ ?_ | refine hR _ ?_); (try (clear hG; clear Kg)); clear hN hX hR; clear Kv) | ((conv => whnf); first | (with_reducible first | rfl | exact True.intro | intro _ | refine And.intro ?_ ?_) | ((with_reducible first | refine hN _ ?_ | refine hX _ _ ?_ | refine hR _ ?_); (try (clear hG; clear Kg)); clear hN hX hR; clear Kv) | (with_reducible first | refine BdS (fun Kv hN hX hR => ?_) | refine Stop.mk ?_ | refine Join.mk ⟨fun Kv hN hX hR => ?_, ?_⟩ | refine DrawJ.each ?_ | exact SubJ.self _) | with_reducible refine SubJ.of ?_ | (with_reducible first | refine FlS (fun Kf hF => ?_) | refine FlN ?_ | refine NdS (fun Kg hG => ?_) | (refine hF _ _ ?_; clear hF; clear Kf) | (refine hG _ _ _ _ ?_; clear hG; clear Kg))))); all_goals (conv => whnf); all_goals (repeat ((try (clear hG; clear Kg)); clear hN hX hR; clear Kv))
  all_goals (try simp only [etaView] at *)
  all_goals first
    | rfl
    | trace_state
noncomputable def ownV (v : GView) (k : Int) : Int × Int := Classical.choose (seal_ex (if viewB v = true ∧ placeB k = true then ((ownP (namesP v.peers ++ [v.id]) k).1, (0 : Int)) else (0, 900)))
theorem ownV_def (v : GView) (k : Int) : ownV v k = if viewB v = true ∧ placeB k = true then ((ownP (namesP v.peers ++ [v.id]) k).1, (0 : Int)) else (0, 900) := Classical.choose_spec (seal_ex _)
theorem ownV_no {v : GView} {k : Int} (h : viewB v = false ∨ placeB k = false) : ownV v k = (0, 900) := by
  rw [ownV_def, if_neg]
  rintro ⟨h1, h2⟩
  rcases h with h | h <;> simp_all
noncomputable def oOwnV (v : GView) (k : Int) : Out := .ok (.tup [.int .i64 (ownV v k).1, .int .i64 (ownV v k).2]) []
theorem k_viewOwner : Known Tryz.prog tau 83 (S2 dView dInt oOwnV) := by
  refine known2 hmix tau_ok (ctx_cons k_viewMay (ctx_cons k_Place (ctx_cons k_Ids (ctx_cons k_rowOwner ctx_nil)))) (fn := Tryz.f83) (by kernel_rfl) [(3, [(0, 0), (1, 0), (2, 2), (3, 4), (4, 9), (5, 0), (6, 48), (7, 64), (8, 128), (9, 128), (10, 511), (11, 2047)])] (by kernel_rfl) _ _ _ fun v k hfit => ⟨rfl, [], ?_⟩
  have hp : v.peers.length * 16 ≤ 140737488355328 := hfit.1.2.1
  clear hfit
  (repeat' (first | ((with_reducible refine BdI ?_); (first | ((with_reducible refine SqI ?_ (fun Kv hN hX hR => ?_)); (next => exact rfl)) | ((with_reducible refine JnI ?_ ?_); (next => exact rfl)) | (conv => whnf))) | (with_reducible first | refine BdS (fun Kv hN hX hR => ?_) | refine Stop.mk ?_ | refine Join.mk ⟨fun Kv hN hX hR => ?_, ?_⟩ | apply DrawJ.join | exact SubJ.self _) | ((with_reducible refine SubJ.of ?_); (repeat' (first | with_reducible rfl | ((conv => whnf) <;> (first | with_reducible exact True.intro | with_reducible refine And.intro ?_ ?_ | with_reducible rfl | ((conv => rhs; whnf) <;> with_reducible rfl))))); done) | (with_reducible first | refine FlS (fun Kf hF => ?_) | refine FlN ?_ | refine NdS (fun Kg hG => ?_) | (refine hF _ _ ?_; clear hF; clear Kf) | (refine hG _ _ _ _ ?_; clear hG; clear Kg)) | ((with_reducible refine SqI ?_ (fun Kv hN hX hR => ?_)); (next => exact rfl)) | ((with_reducible refine JnI ?_ ?_); (next => exact rfl)) | ((with_reducible first | refine hN _ ?_ | refine hX _ _ ?_ | refine hR _ ?_); (try (clear hG; clear Kg)); clear hN hX hR; clear Kv) | ((conv => whnf); first | (with_reducible first | rfl | exact True.intro | intro _ | refine And.intro ?_ ?_) | ((with_reducible first | refine hN _ ?_ | refine hX _ _ ?_ | refine hR _ ?_); (try (clear hG; clear Kg)); clear hN hX hR; clear Kv) | (with_reducible first | refine BdS (fun Kv hN hX hR => ?_) | refine Stop.mk ?_ | refine Join.mk ⟨fun Kv hN hX hR => ?_, ?_⟩ | apply DrawJ.join | exact SubJ.self _) | ((with_reducible refine SubJ.of ?_); (repeat' (first | with_reducible rfl | ((conv => whnf) <;> (first | with_reducible exact True.intro | with_reducible refine And.intro ?_ ?_ | with_reducible rfl | ((conv => rhs; whnf) <;> with_reducible rfl))))); done) | (with_reducible first | refine FlS (fun Kf hF => ?_) | refine FlN ?_ | refine NdS (fun Kg hG => ?_) | (refine hF _ _ ?_; clear hF; clear Kf) | (refine hG _ _ _ _ ?_; clear hG; clear Kg))))); all_goals (conv => whnf); all_goals (repeat ((try (clear hG; clear Kg)); clear hN hX hR; clear Kv))
  all_goals (try simp only [etaView] at *)
  all_goals first
    | (rw [ownV_no (.inl (nf (show (!viewB v) = true by with_reducible assumption)))]; done)
    | (rw [ownV_no (.inr (nf (show (!placeB k) = true by with_reducible assumption)))]; done)
    | (have h : viewB v = true := nt (by with_reducible assumption)
       have h2 : placeB k = true := nt (by with_reducible assumption)
       have h3 := (viewB_iff.1 h).2.2.1
       first
         | (refine Ob.mk ?_
            simp only [Rw.len, Rw.bts, Rw.kd, kdBytes, namesP_len, List.length_cons, List.length_nil]
            omega)
         | (rw [ownV_def, if_pos ⟨h, h2⟩]; done))
    | trace_state
theorem k_nodeUp : Known Tryz.prog tau 32 (S1 dNode fun x => okB (x.up && nodeB x)) := by
  refine known1 hmix tau_ok (ctx_cons k_nodeMay ctx_nil) (fn := Tryz.f32) (by kernel_rfl) [] (by kernel_rfl) _ _ fun x hfit => ⟨rfl, [], ?_⟩
  clear hfit
  (repeat' (first | ((with_reducible refine BdI ?_); (first | ((with_reducible refine SqI ?_ (fun Kv hN hX hR => ?_)); (next => exact rfl)) | ((with_reducible refine JnI ?_ ?_); (next => exact rfl)) | (conv => whnf))) | (with_reducible first | refine BdS (fun Kv hN hX hR => ?_) | refine Stop.mk ?_ | refine Join.mk ⟨fun Kv hN hX hR => ?_, ?_⟩ | refine DrawJ.each ?_ | exact SubJ.self _) | with_reducible refine SubJ.of ?_ | (with_reducible first | refine FlS (fun Kf hF => ?_) | refine FlN ?_ | refine NdS (fun Kg hG => ?_) | (refine hF _ _ ?_; clear hF; clear Kf) | (refine hG _ _ _ _ ?_; clear hG; clear Kg)) | ((with_reducible refine SqI ?_ (fun Kv hN hX hR => ?_)); (next => exact rfl)) | ((with_reducible refine JnI ?_ ?_); (next => exact rfl)) | ((with_reducible first | refine hN _ ?_ | refine hX _ _ ?_ | refine hR _ ?_); (try (clear hG; clear Kg)); clear hN hX hR; clear Kv) | ((conv => whnf); first | (with_reducible first | rfl | exact True.intro | intro _ | refine And.intro ?_ ?_) | ((with_reducible first | refine hN _ ?_ | refine hX _ _ ?_ | refine hR _ ?_); (try (clear hG; clear Kg)); clear hN hX hR; clear Kv) | (with_reducible first | refine BdS (fun Kv hN hX hR => ?_) | refine Stop.mk ?_ | refine Join.mk ⟨fun Kv hN hX hR => ?_, ?_⟩ | refine DrawJ.each ?_ | exact SubJ.self _) | with_reducible refine SubJ.of ?_ | (with_reducible first | refine FlS (fun Kf hF => ?_) | refine FlN ?_ | refine NdS (fun Kg hG => ?_) | (refine hF _ _ ?_; clear hF; clear Kf) | (refine hG _ _ _ _ ?_; clear hG; clear Kg))))); all_goals (conv => whnf); all_goals (repeat ((try (clear hG; clear Kg)); clear hN hX hR; clear Kv))
  all_goals (try simp only [etaNode] at *)
  all_goals first
    | (have h : x.up = true := by with_reducible assumption
       rw [h]
       rfl)
    | (have h : x.up = false := by with_reducible assumption
       rw [h]
       rfl)
    | trace_state
def nOwn4 (n : GNode) : List SV := [.bool n.up, .int .i64 n.view.id, .own 0, .own 1, .own 2, .own 3]
def nRows (n : GNode) : List Rw := [.peers n.view.peers, .ints n.view.passive, .items n.items, .tolds n.log]
theorem k_nodeCopy : Known Tryz.prog tau 33 (S1 dNode fun x => .ok (.agg (nOwn4 x)) (nRows x)) := by
  refine known1 hmix tau_ok (ctx_cons k_viewCopy (ctx_cons k_CloneItems (ctx_cons k_CloneTolds ctx_nil))) (fn := Tryz.f33) (by kernel_rfl) [(1, [(0, 0), (1, 1), (2, 2), (3, 0), (4, 8), (5, 20), (6, 0), (7, 64), (8, 160), (9, 223), (10, 991), (11, 1791), (12, 3839), (13, 8191), (14, 16383)])] (by kernel_rfl) _ _ fun x hfit => ⟨rfl, [], ?_⟩
  clear hfit
  (repeat' (first | ((with_reducible refine BdI ?_); (first | ((with_reducible refine SqI ?_ (fun Kv hN hX hR => ?_)); (next => exact rfl)) | ((with_reducible refine JnI ?_ ?_); (next => exact rfl)) | (conv => whnf))) | (with_reducible first | refine BdS (fun Kv hN hX hR => ?_) | refine Stop.mk ?_ | refine Join.mk ⟨fun Kv hN hX hR => ?_, ?_⟩ | apply DrawJ.join | exact SubJ.self _) | ((with_reducible refine SubJ.of ?_); (repeat' (first | with_reducible rfl | ((conv => whnf) <;> (first | with_reducible exact True.intro | with_reducible refine And.intro ?_ ?_ | with_reducible rfl | ((conv => rhs; whnf) <;> with_reducible rfl))))); done) | (with_reducible first | refine FlS (fun Kf hF => ?_) | refine FlN ?_ | refine NdS (fun Kg hG => ?_) | (refine hF _ _ ?_; clear hF; clear Kf) | (refine hG _ _ _ _ ?_; clear hG; clear Kg)) | ((with_reducible refine SqI ?_ (fun Kv hN hX hR => ?_)); (next => exact rfl)) | ((with_reducible refine JnI ?_ ?_); (next => exact rfl)) | ((with_reducible first | refine hN _ ?_ | refine hX _ _ ?_ | refine hR _ ?_); (try (clear hG; clear Kg)); clear hN hX hR; clear Kv) | ((conv => whnf); first | (with_reducible first | rfl | exact True.intro | intro _ | refine And.intro ?_ ?_) | ((with_reducible first | refine hN _ ?_ | refine hX _ _ ?_ | refine hR _ ?_); (try (clear hG; clear Kg)); clear hN hX hR; clear Kv) | (with_reducible first | refine BdS (fun Kv hN hX hR => ?_) | refine Stop.mk ?_ | refine Join.mk ⟨fun Kv hN hX hR => ?_, ?_⟩ | apply DrawJ.join | exact SubJ.self _) | ((with_reducible refine SubJ.of ?_); (repeat' (first | with_reducible rfl | ((conv => whnf) <;> (first | with_reducible exact True.intro | with_reducible refine And.intro ?_ ?_ | with_reducible rfl | ((conv => rhs; whnf) <;> with_reducible rfl))))); done) | (with_reducible first | refine FlS (fun Kf hF => ?_) | refine FlN ?_ | refine NdS (fun Kg hG => ?_) | (refine hF _ _ ?_; clear hF; clear Kf) | (refine hG _ _ _ _ ?_; clear hG; clear Kg))))); all_goals (conv => whnf); all_goals (repeat ((try (clear hG; clear Kg)); clear hN hX hR; clear Kv))
  all_goals first
    | rfl
    | trace_state
end Go.Proofs.YtmhieddhmebfhaaGreat

/- Contracts: sharing; a node's turn. -/
namespace Go.Proofs.YtmhieddhmebfhaaGreat
open Go.RowKit
set_option maxRecDepth 20000
/-- Whom an item is sent to. -/
noncomputable def toV (v : GView) (k : Int) : Int := if (ownV v k).1 = v.id then (succV v).1 else (ownV v k).1
noncomputable def shareL (v : GView) : List GItem → List GMsg
  | [] => []
  | i :: l => (if toV v i.key = v.id then [] else [(⟨1, v.id, toV v i.key, [], 0, i, false⟩ : GMsg)]) ++ shareL v l
theorem shareL_app (v : GView) (a b : List GItem) : shareL v (a ++ b) = shareL v a ++ shareL v b := by
  induction a with
  | nil => rfl
  | cons i a ih => simp only [List.cons_append, shareL, ih, List.append_assoc]
theorem shareL_succ {v : GView} {l : List GItem} {i : Nat} (h : i < l.length) : shareL v (l.take (i + 1)) = shareL v (l.take i) ++ (if toV v (l.getD i default).key = v.id then [] else [(⟨1, v.id, toV v (l.getD i default).key, [], 0, l.getD i default, false⟩ : GMsg)]) := by
  rw [List.take_succ_eq_append_getElem h, shareL_app, ← etaIt h]
  simp only [shareL, List.append_nil]
theorem shareL_len (v : GView) (l : List GItem) : (shareL v l).length ≤ l.length := by
  induction l with
  | nil => exact Nat.le_refl _
  | cons i l ih => simp only [shareL, List.length_append, List.length_cons]; split <;> simp <;> omega
noncomputable def shareN (x : GNode) : List GMsg × Int := Classical.choose (seal_ex (if (x.up && nodeB x) = true then (shareL x.view x.items, (0 : Int)) else ([], 1800)))
theorem shareN_def (x : GNode) : shareN x = if (x.up && nodeB x) = true then (shareL x.view x.items, (0 : Int)) else ([], 1800) := Classical.choose_spec (seal_ex _)
noncomputable def oShare (x : GNode) : Out := .ok (.tup [.own 0, .int .i64 (shareN x).2]) [.msgs (shareN x).1]
set_option maxHeartbeats 2000000 in
theorem k_shareOf : Known Tryz.prog tau 36 (S1 dNode oShare) := by
  refine known1 hmix tau_ok (ctx_cons k_nodeUp (ctx_cons k_Succ (ctx_cons k_viewOwner ctx_nil))) (fn := Tryz.f36) (by kernel_rfl) [] (by kernel_rfl) _ _ fun x hfit => ⟨rfl,
    [(6, invA Nat [(4, 54, 7)] (4 :: 8 :: 9 :: 10 :: 23 :: 24 :: 25 :: 26 :: 27 :: 28 :: 29 :: 30 :: 31 :: 32 :: 33 :: 34 :: 35 :: 36 :: 37 :: 38 :: 39 :: 40 :: 41 :: 42 :: 43 :: 44 :: 45 :: 46 :: 47 :: 48 :: 49 :: 50 :: 51 :: 52 :: 53 :: 54 :: 55 :: []) [] (fun i => i ≤ x.items.length) (fun i => fun st => withS [(23, .int .i64 i), (4, .own 54)] (withR [(54, .own (.msgs (shareL x.view (x.items.take i))))] st)) (fun i => x.items.length - i))], ?_⟩
  have hp : x.items.length * 40 ≤ 140737488355328 := hfit.1.2.2.2.2.1
  clear hfit
  (repeat' (first | ((with_reducible refine BdI ?_); (first | ((with_reducible refine SqI ?_ (fun Kv hN hX hR => ?_)); (next => exact rfl)) | ((with_reducible refine JnI ?_ ?_); (next => exact rfl)) | (conv => whnf))) | (with_reducible first | refine BdS (fun Kv hN hX hR => ?_) | refine Stop.mk ?_ | refine Join.mk ⟨fun Kv hN hX hR => ?_, ?_⟩ | refine DrawJ.each ?_ | exact SubJ.self _) | with_reducible refine SubJ.of ?_ | (with_reducible first | refine FlS (fun Kf hF => ?_) | refine FlN ?_ | refine NdS (fun Kg hG => ?_) | (refine hF _ _ ?_; clear hF; clear Kf) | (refine hG _ _ _ _ ?_; clear hG; clear Kg)) | ((with_reducible refine SqI ?_ (fun Kv hN hX hR => ?_)); (next => exact rfl)) | ((with_reducible refine JnI ?_ ?_); (next => exact rfl)) | ((with_reducible first | refine hN _ ?_ | refine hX _ _ ?_ | refine hR _ ?_); (try (clear hG; clear Kg)); clear hN hX hR; clear Kv) | ((conv => whnf); first | (with_reducible first | rfl | exact True.intro | refine (fun (_ : (_ : Prop)) => ?_) | refine And.intro ?_ ?_) | ((with_reducible first | refine hN _ ?_ | refine hX _ _ ?_ | refine hR _ ?_); (try (clear hG; clear Kg)); clear hN hX hR; clear Kv) | (with_reducible first | refine BdS (fun Kv hN hX hR => ?_) | refine Stop.mk ?_ | refine Join.mk ⟨fun Kv hN hX hR => ?_, ?_⟩ | refine DrawJ.each ?_ | exact SubJ.self _) | with_reducible refine SubJ.of ?_ | (with_reducible first | refine FlS (fun Kf hF => ?_) | refine FlN ?_ | refine NdS (fun Kg hG => ?_) | (refine hF _ _ ?_; clear hF; clear Kf) | (refine hG _ _ _ _ ?_; clear hG; clear Kg))))); all_goals (conv => whnf); all_goals (repeat ((try (clear hG; clear Kg)); clear hN hX hR; clear Kv))
  all_goals first
    | (have h : (x.up && nodeB x) = false := nf (by with_reducible assumption)
       rw [shareN_def, if_neg (by rw [h]; simp)] <;> rfl)
    | (refine ⟨0, Nat.zero_le _, ?_⟩
       (repeat' (first | ((with_reducible refine BdI ?_); (first | ((with_reducible refine SqI ?_ (fun Kv hN hX hR => ?_)); (next => exact rfl)) | ((with_reducible refine JnI ?_ ?_); (next => exact rfl)) | (conv => whnf))) | (with_reducible first | refine BdS (fun Kv hN hX hR => ?_) | refine Stop.mk ?_ | refine Join.mk ⟨fun Kv hN hX hR => ?_, ?_⟩ | refine DrawJ.each ?_ | exact SubJ.self _) | with_reducible refine SubJ.of ?_ | (with_reducible first | refine FlS (fun Kf hF => ?_) | refine FlN ?_ | refine NdS (fun Kg hG => ?_) | (refine hF _ _ ?_; clear hF; clear Kf) | (refine hG _ _ _ _ ?_; clear hG; clear Kg)) | ((with_reducible refine SqI ?_ (fun Kv hN hX hR => ?_)); (next => exact rfl)) | ((with_reducible refine JnI ?_ ?_); (next => exact rfl)) | ((with_reducible first | refine hN _ ?_ | refine hX _ _ ?_ | refine hR _ ?_); (try (clear hG; clear Kg)); clear hN hX hR; clear Kv) | ((conv => whnf); first | (with_reducible first | rfl | exact True.intro | intro _ | refine And.intro ?_ ?_) | ((with_reducible first | refine hN _ ?_ | refine hX _ _ ?_ | refine hR _ ?_); (try (clear hG; clear Kg)); clear hN hX hR; clear Kv) | (with_reducible first | refine BdS (fun Kv hN hX hR => ?_) | refine Stop.mk ?_ | refine Join.mk ⟨fun Kv hN hX hR => ?_, ?_⟩ | refine DrawJ.each ?_ | exact SubJ.self _) | with_reducible refine SubJ.of ?_ | (with_reducible first | refine FlS (fun Kf hF => ?_) | refine FlN ?_ | refine NdS (fun Kg hG => ?_) | (refine hF _ _ ?_; clear hF; clear Kf) | (refine hG _ _ _ _ ?_; clear hG; clear Kg))))); all_goals (conv => whnf); all_goals (repeat ((try (clear hG; clear Kg)); clear hN hX hR; clear Kv))
       all_goals rfl)
    | (with_reducible intro i hi
       have hi : i ≤ x.items.length := hi
       have hB : (x.up && nodeB x) = true := nt (by with_reducible assumption)
       have hst := (storeB_iff.1 (by
         have := (Bool.and_eq_true _ _ ▸ hB).2
         unfold nodeB at this
         simp only [Bool.and_eq_true] at this
         exact this.2.1 : storeB x.items = true)).1
       have g2 := shareL_len x.view (x.items.take i)
       rw [List.length_take] at g2
       (repeat' (first | ((with_reducible refine BdI ?_); (first | ((with_reducible refine SqI ?_ (fun Kv hN hX hR => ?_)); (next => exact rfl)) | ((with_reducible refine JnI ?_ ?_); (next => exact rfl)) | (conv => whnf))) | (with_reducible first | refine BdS (fun Kv hN hX hR => ?_) | refine Stop.mk ?_ | refine Join.mk ⟨fun Kv hN hX hR => ?_, ?_⟩ | refine DrawJ.each ?_ | exact SubJ.self _) | with_reducible refine SubJ.of ?_ | (with_reducible first | refine FlS (fun Kf hF => ?_) | refine FlN ?_ | refine NdS (fun Kg hG => ?_) | (refine hF _ _ ?_; clear hF; clear Kf) | (refine hG _ _ _ _ ?_; clear hG; clear Kg)) | ((with_reducible refine SqI ?_ (fun Kv hN hX hR => ?_)); (next => exact rfl)) | ((with_reducible refine JnI ?_ ?_); (next => exact rfl)) | ((with_reducible first | refine hN _ ?_ | refine hX _ _ ?_ | refine hR _ ?_); (try (clear hG; clear Kg)); clear hN hX hR; clear Kv) | ((conv => whnf); first | (with_reducible first | rfl | exact True.intro | intro _ | refine And.intro ?_ ?_) | ((with_reducible first | refine hN _ ?_ | refine hX _ _ ?_ | refine hR _ ?_); (try (clear hG; clear Kg)); clear hN hX hR; clear Kv) | (with_reducible first | refine BdS (fun Kv hN hX hR => ?_) | refine Stop.mk ?_ | refine Join.mk ⟨fun Kv hN hX hR => ?_, ?_⟩ | refine DrawJ.each ?_ | exact SubJ.self _) | with_reducible refine SubJ.of ?_ | (with_reducible first | refine FlS (fun Kf hF => ?_) | refine FlN ?_ | refine NdS (fun Kg hG => ?_) | (refine hF _ _ ?_; clear hF; clear Kf) | (refine hG _ _ _ _ ?_; clear hG; clear Kg))))); all_goals (conv => whnf); all_goals (repeat ((try (clear hG; clear Kg)); clear hN hX hR; clear Kv))
       all_goals (try simp only [Int.toNat_natCast, etaView, etaItem] at *)
       all_goals first
         | exact Ob.mk ⟨by omega, of_decide_eq_true (by with_reducible assumption)⟩
         | (refine Ob.mk ?_
            simp only [Rw.len, Rw.bts, Rw.kd, kdBytes, List.length_cons, List.length_nil]
            omega)
         | (have h := of_decide_eq_true (show decide ((i : Int) < (x.items.length : Nat)) = true by with_reducible assumption)
            have e1 := shareL_succ (v := x.view) (l := x.items) (i := i) (by omega)
            have go : ∀ ys, shareL x.view (x.items.take (i + 1)) = shareL x.view (x.items.take i) ++ ys → shareL x.view (x.items.take i) ++ ys = shareL x.view (x.items.take (i + 1)) := fun ys h => h.symm
            first
              | (have h1 := of_decide_eq_true (show decide ((ownV x.view (x.items.getD i default).key).1 = x.view.id) = true by with_reducible assumption)
                 have ht : toV x.view (x.items.getD i default).key = (succV x.view).1 := by unfold toV; rw [if_pos h1]
                 rw [ht] at e1
                 first
                   | (have h2 := of_decide_eq_false (nf (show (!decide ((succV x.view).1 = x.view.id)) = true by with_reducible assumption))
                      rw [if_neg h2] at e1
                      refine ⟨i + 1, by omega, by omega, ?_⟩
                      (repeat' (first | ((with_reducible refine BdI ?_); (first | ((with_reducible refine SqI ?_ (fun Kv hN hX hR => ?_)); (next => exact rfl)) | ((with_reducible refine JnI ?_ ?_); (next => exact rfl)) | (conv => whnf))) | (with_reducible first | refine BdS (fun Kv hN hX hR => ?_) | refine Stop.mk ?_ | refine Join.mk ⟨fun Kv hN hX hR => ?_, ?_⟩ | refine DrawJ.each ?_ | exact SubJ.self _) | with_reducible refine SubJ.of ?_ | (with_reducible first | refine FlS (fun Kf hF => ?_) | refine FlN ?_ | refine NdS (fun Kg hG => ?_) | (refine hF _ _ ?_; clear hF; clear Kf) | (refine hG _ _ _ _ ?_; clear hG; clear Kg)) | ((with_reducible refine SqI ?_ (fun Kv hN hX hR => ?_)); (next => exact rfl)) | ((with_reducible refine JnI ?_ ?_); (next => exact rfl)) | ((with_reducible first | refine hN _ ?_ | refine hX _ _ ?_ | refine hR _ ?_); (try (clear hG; clear Kg)); clear hN hX hR; clear Kv) | ((conv => whnf); first | (with_reducible first | rfl | exact True.intro | intro _ | refine And.intro ?_ ?_) | ((with_reducible first | refine hN _ ?_ | refine hX _ _ ?_ | refine hR _ ?_); (try (clear hG; clear Kg)); clear hN hX hR; clear Kv) | (with_reducible first | refine BdS (fun Kv hN hX hR => ?_) | refine Stop.mk ?_ | refine Join.mk ⟨fun Kv hN hX hR => ?_, ?_⟩ | refine DrawJ.each ?_ | exact SubJ.self _) | with_reducible refine SubJ.of ?_ | (with_reducible first | refine FlS (fun Kf hF => ?_) | refine FlN ?_ | refine NdS (fun Kg hG => ?_) | (refine hF _ _ ?_; clear hF; clear Kf) | (refine hG _ _ _ _ ?_; clear hG; clear Kg))))); all_goals (conv => whnf); all_goals (repeat ((try (clear hG; clear Kg)); clear hN hX hR; clear Kv))
                      all_goals first
                        | exact wrapI (by omega) (by omega)
                        | exact congrArg Rw.msgs e1.symm
                        | rfl)
                   | (have h2 := of_decide_eq_true (nt (show (!decide ((succV x.view).1 = x.view.id)) = false by with_reducible assumption))
                      rw [if_pos h2, List.append_nil] at e1
                      refine ⟨i + 1, by omega, by omega, ?_⟩
                      (repeat' (first | ((with_reducible refine BdI ?_); (first | ((with_reducible refine SqI ?_ (fun Kv hN hX hR => ?_)); (next => exact rfl)) | ((with_reducible refine JnI ?_ ?_); (next => exact rfl)) | (conv => whnf))) | (with_reducible first | refine BdS (fun Kv hN hX hR => ?_) | refine Stop.mk ?_ | refine Join.mk ⟨fun Kv hN hX hR => ?_, ?_⟩ | refine DrawJ.each ?_ | exact SubJ.self _) | with_reducible refine SubJ.of ?_ | (with_reducible first | refine FlS (fun Kf hF => ?_) | refine FlN ?_ | refine NdS (fun Kg hG => ?_) | (refine hF _ _ ?_; clear hF; clear Kf) | (refine hG _ _ _ _ ?_; clear hG; clear Kg)) | ((with_reducible refine SqI ?_ (fun Kv hN hX hR => ?_)); (next => exact rfl)) | ((with_reducible refine JnI ?_ ?_); (next => exact rfl)) | ((with_reducible first | refine hN _ ?_ | refine hX _ _ ?_ | refine hR _ ?_); (try (clear hG; clear Kg)); clear hN hX hR; clear Kv) | ((conv => whnf); first | (with_reducible first | rfl | exact True.intro | intro _ | refine And.intro ?_ ?_) | ((with_reducible first | refine hN _ ?_ | refine hX _ _ ?_ | refine hR _ ?_); (try (clear hG; clear Kg)); clear hN hX hR; clear Kv) | (with_reducible first | refine BdS (fun Kv hN hX hR => ?_) | refine Stop.mk ?_ | refine Join.mk ⟨fun Kv hN hX hR => ?_, ?_⟩ | refine DrawJ.each ?_ | exact SubJ.self _) | with_reducible refine SubJ.of ?_ | (with_reducible first | refine FlS (fun Kf hF => ?_) | refine FlN ?_ | refine NdS (fun Kg hG => ?_) | (refine hF _ _ ?_; clear hF; clear Kf) | (refine hG _ _ _ _ ?_; clear hG; clear Kg))))); all_goals (conv => whnf); all_goals (repeat ((try (clear hG; clear Kg)); clear hN hX hR; clear Kv))
                      all_goals first
                        | exact wrapI (by omega) (by omega)
                        | exact congrArg Rw.msgs e1.symm
                        | rfl))
              | (have h1 := of_decide_eq_false (show decide ((ownV x.view (x.items.getD i default).key).1 = x.view.id) = false by with_reducible assumption)
                 have ht : toV x.view (x.items.getD i default).key = (ownV x.view (x.items.getD i default).key).1 := by unfold toV; rw [if_neg h1]
                 rw [ht, if_neg h1] at e1
                 first
                   | exact absurd (of_decide_eq_true (nt (show (!decide ((ownV x.view (x.items.getD i default).key).1 = x.view.id)) = false by with_reducible assumption))) h1
                   | (refine ⟨i + 1, by omega, by omega, ?_⟩
                      (repeat' (first | ((with_reducible refine BdI ?_); (first | ((with_reducible refine SqI ?_ (fun Kv hN hX hR => ?_)); (next => exact rfl)) | ((with_reducible refine JnI ?_ ?_); (next => exact rfl)) | (conv => whnf))) | (with_reducible first | refine BdS (fun Kv hN hX hR => ?_) | refine Stop.mk ?_ | refine Join.mk ⟨fun Kv hN hX hR => ?_, ?_⟩ | refine DrawJ.each ?_ | exact SubJ.self _) | with_reducible refine SubJ.of ?_ | (with_reducible first | refine FlS (fun Kf hF => ?_) | refine FlN ?_ | refine NdS (fun Kg hG => ?_) | (refine hF _ _ ?_; clear hF; clear Kf) | (refine hG _ _ _ _ ?_; clear hG; clear Kg)) | ((with_reducible refine SqI ?_ (fun Kv hN hX hR => ?_)); (next => exact rfl)) | ((with_reducible refine JnI ?_ ?_); (next => exact rfl)) | ((with_reducible first | refine hN _ ?_ | refine hX _ _ ?_ | refine hR _ ?_); (try (clear hG; clear Kg)); clear hN hX hR; clear Kv) | ((conv => whnf); first | (with_reducible first | rfl | exact True.intro | intro _ | refine And.intro ?_ ?_) | ((with_reducible first | refine hN _ ?_ | refine hX _ _ ?_ | refine hR _ ?_); (try (clear hG; clear Kg)); clear hN hX hR; clear Kv) | (with_reducible first | refine BdS (fun Kv hN hX hR => ?_) | refine Stop.mk ?_ | refine Join.mk ⟨fun Kv hN hX hR => ?_, ?_⟩ | refine DrawJ.each ?_ | exact SubJ.self _) | with_reducible refine SubJ.of ?_ | (with_reducible first | refine FlS (fun Kf hF => ?_) | refine FlN ?_ | refine NdS (fun Kg hG => ?_) | (refine hF _ _ ?_; clear hF; clear Kf) | (refine hG _ _ _ _ ?_; clear hG; clear Kg))))); all_goals (conv => whnf); all_goals (repeat ((try (clear hG; clear Kg)); clear hN hX hR; clear Kv))
                      all_goals first
                        | exact wrapI (by omega) (by omega)
                        | exact congrArg Rw.msgs e1.symm
                        | rfl)))
         | (have h := of_decide_eq_false (show decide ((i : Int) < (x.items.length : Nat)) = false by with_reducible assumption)
            rw [shareN_def, if_pos hB]
            first
              | done
              | rfl
              | rw [List.take_of_length_le (by omega)])
         | trace_state)
    | trace_state
/-- Greetings. -/
def helloL (v : GView) (ts : List Int) : List GMsg := ts.map fun t => ⟨0, v.id, t, namesP v.peers, 0, ⟨0, ⟨0, 0⟩, 0, false⟩, false⟩
theorem helloL_succ {v : GView} {l : List Int} {i : Nat} (h : i < l.length) : helloL v (l.take (i + 1)) = helloL v (l.take i) ++ [⟨0, v.id, l.getD i 0, namesP v.peers, 0, ⟨0, ⟨0, 0⟩, 0, false⟩, false⟩] := by
  unfold helloL
  rw [List.take_succ_eq_append_getElem h, List.map_append]
  simp [List.getD_eq_getElem?_getD, h]
theorem helloL_len (v : GView) (l : List Int) : (helloL v l).length = l.length := by simp [helloL]
noncomputable def tickN (x : GNode) : GNode × List GMsg × Int := Classical.choose (seal_ex (if (x.up && nodeB x) = true then ((⟨x.up, (tickV x.view).1, x.items, x.log⟩ : GNode), helloL (tickV x.view).1 (tickV x.view).2.1 ++ (shareN ⟨x.up, (tickV x.view).1, x.items, x.log⟩).1, (0 : Int)) else (nodeZ, [], 1900)))
theorem tickN_def (x : GNode) : tickN x = if (x.up && nodeB x) = true then ((⟨x.up, (tickV x.view).1, x.items, x.log⟩ : GNode), helloL (tickV x.view).1 (tickV x.view).2.1 ++ (shareN ⟨x.up, (tickV x.view).1, x.items, x.log⟩).1, (0 : Int)) else (nodeZ, [], 1900) := Classical.choose_spec (seal_ex _)
theorem shareN_len (x : GNode) : (shareN x).1.length ≤ x.items.length := by
  rw [shareN_def]
  split
  · exact shareL_len _ _
  · simp
theorem up_view {x : GNode} (h : (x.up && nodeB x) = true) : x.up = true ∧ nodeB x = true ∧ viewB x.view = true ∧ storeB x.items = true := by
  have h1 := Bool.and_eq_true _ _ ▸ h
  refine ⟨h1.1, h1.2, ?_⟩
  have := h1.2
  unfold nodeB at this
  simp only [Bool.and_eq_true] at this
  exact ⟨this.1, this.2.1⟩
noncomputable def oTick (x : GNode) : Out := .ok (.tup [.agg [.bool (tickN x).1.up, .int .i64 (tickN x).1.view.id, .own 0, .row .new (.ints (tickN x).1.view.passive), .own 1, .own 2], .own 3, .int .i64 (tickN x).2.2]) [.peers (tickN x).1.view.peers, .items (tickN x).1.items, .tolds (tickN x).1.log, .msgs (tickN x).2.1]
set_option maxHeartbeats 4000000 in
theorem k_tickStep : Known Tryz.prog tau 8 (S1 dNode oTick) := by
  refine known1 hmix tau_ok (ctx_cons k_nodeUp (ctx_cons k_nodeCopy (ctx_cons k_ageTick (ctx_cons k_Ids (ctx_cons k_shareOf ctx_nil))))) (fn := Tryz.f8) (by kernel_rfl) [(10, [(0, 0), (1, 0), (2, 2), (3, 0), (4, 0), (5, 28), (6, 32), (7, 81), (8, 255)]), (13, [(0, 0), (1, 0), (2, 0), (3, 6), (4, 9), (5, 31), (6, 63)])] (by kernel_rfl) _ _ fun x hfit => ⟨rfl,
    [(8, invA Nat [(9, 42, 7)] [9, 11, 31, 32, 33, 34, 35, 36, 37, 38, 39, 40, 41, 42, 43] [] (fun i => i ≤ (tickV x.view).2.1.length) (fun i => fun st => withS [(31, .int .i64 i), (9, .own 42)] (withR [(42, .own (.msgs (helloL (tickV x.view).1 ((tickV x.view).2.1.take i))))] st)) (fun i => (tickV x.view).2.1.length - i))], ?_⟩
  have hp : x.items.length * 40 ≤ 140737488355328 := hfit.1.2.2.2.2.1
  clear hfit
  (repeat' (first | ((with_reducible refine BdI ?_); (first | ((with_reducible refine SqI ?_ (fun Kv hN hX hR => ?_)); (next => exact rfl)) | ((with_reducible refine JnI ?_ ?_); (next => exact rfl)) | (conv => whnf))) | (with_reducible first | refine BdS (fun Kv hN hX hR => ?_) | refine Stop.mk ?_ | refine Join.mk ⟨fun Kv hN hX hR => ?_, ?_⟩ | apply DrawJ.join | exact SubJ.self _) | ((with_reducible refine SubJ.of ?_); (repeat' (first | with_reducible rfl | ((conv => whnf) <;> (first | with_reducible exact True.intro | with_reducible refine And.intro ?_ ?_ | with_reducible rfl | ((conv => rhs; whnf) <;> with_reducible rfl))))); done) | (with_reducible first | refine FlS (fun Kf hF => ?_) | refine FlN ?_ | refine NdS (fun Kg hG => ?_) | (refine hF _ _ ?_; clear hF; clear Kf) | (refine hG _ _ _ _ ?_; clear hG; clear Kg)) | ((with_reducible refine SqI ?_ (fun Kv hN hX hR => ?_)); (next => exact rfl)) | ((with_reducible refine JnI ?_ ?_); (next => exact rfl)) | ((with_reducible first | refine hN _ ?_ | refine hX _ _ ?_ | refine hR _ ?_); (try (clear hG; clear Kg)); clear hN hX hR; clear Kv) | ((conv => whnf); first | (with_reducible first | rfl | exact True.intro | refine (fun (_ : (_ : Prop)) => ?_) | refine And.intro ?_ ?_) | ((with_reducible first | refine hN _ ?_ | refine hX _ _ ?_ | refine hR _ ?_); (try (clear hG; clear Kg)); clear hN hX hR; clear Kv) | (with_reducible first | refine BdS (fun Kv hN hX hR => ?_) | refine Stop.mk ?_ | refine Join.mk ⟨fun Kv hN hX hR => ?_, ?_⟩ | apply DrawJ.join | exact SubJ.self _) | ((with_reducible refine SubJ.of ?_); (repeat' (first | with_reducible rfl | ((conv => whnf) <;> (first | with_reducible exact True.intro | with_reducible refine And.intro ?_ ?_ | with_reducible rfl | ((conv => rhs; whnf) <;> with_reducible rfl))))); done) | (with_reducible first | refine FlS (fun Kf hF => ?_) | refine FlN ?_ | refine NdS (fun Kg hG => ?_) | (refine hF _ _ ?_; clear hF; clear Kf) | (refine hG _ _ _ _ ?_; clear hG; clear Kg))))); all_goals (conv => whnf); all_goals (repeat ((try (clear hG; clear Kg)); clear hN hX hR; clear Kv))
  all_goals first
    | (have h : (x.up && nodeB x) = false := nf (by with_reducible assumption)
       rw [tickN_def, if_neg (by rw [h]; simp)] <;> rfl)
    | (refine ⟨0, Nat.zero_le _, ?_⟩
       (repeat' (first | ((with_reducible refine BdI ?_); (first | ((with_reducible refine SqI ?_ (fun Kv hN hX hR => ?_)); (next => exact rfl)) | ((with_reducible refine JnI ?_ ?_); (next => exact rfl)) | (conv => whnf))) | (with_reducible first | refine BdS (fun Kv hN hX hR => ?_) | refine Stop.mk ?_ | refine Join.mk ⟨fun Kv hN hX hR => ?_, ?_⟩ | refine DrawJ.each ?_ | exact SubJ.self _) | with_reducible refine SubJ.of ?_ | (with_reducible first | refine FlS (fun Kf hF => ?_) | refine FlN ?_ | refine NdS (fun Kg hG => ?_) | (refine hF _ _ ?_; clear hF; clear Kf) | (refine hG _ _ _ _ ?_; clear hG; clear Kg)) | ((with_reducible refine SqI ?_ (fun Kv hN hX hR => ?_)); (next => exact rfl)) | ((with_reducible refine JnI ?_ ?_); (next => exact rfl)) | ((with_reducible first | refine hN _ ?_ | refine hX _ _ ?_ | refine hR _ ?_); (try (clear hG; clear Kg)); clear hN hX hR; clear Kv) | ((conv => whnf); first | (with_reducible first | rfl | exact True.intro | intro _ | refine And.intro ?_ ?_) | ((with_reducible first | refine hN _ ?_ | refine hX _ _ ?_ | refine hR _ ?_); (try (clear hG; clear Kg)); clear hN hX hR; clear Kv) | (with_reducible first | refine BdS (fun Kv hN hX hR => ?_) | refine Stop.mk ?_ | refine Join.mk ⟨fun Kv hN hX hR => ?_, ?_⟩ | refine DrawJ.each ?_ | exact SubJ.self _) | with_reducible refine SubJ.of ?_ | (with_reducible first | refine FlS (fun Kf hF => ?_) | refine FlN ?_ | refine NdS (fun Kg hG => ?_) | (refine hF _ _ ?_; clear hF; clear Kf) | (refine hG _ _ _ _ ?_; clear hG; clear Kg))))); all_goals (conv => whnf); all_goals (repeat ((try (clear hG; clear Kg)); clear hN hX hR; clear Kv))
       all_goals rfl)
    | (with_reducible intro i hi
       have hi : i ≤ (tickV x.view).2.1.length := hi
       have hB : (x.up && nodeB x) = true := nt (by with_reducible assumption)
       obtain ⟨b1, b2, b3, b4⟩ := up_view hB
       have t := tick_ok b3
       have tl := congrArg List.length t.2.2.2.2.1
       rw [List.length_append, namesP_len, ← t.2.2.1] at tl
       have t16 := (viewB_iff.1 t.1).2.2.1
       have s16 := (storeB_iff.1 b4).1
       have g3 := shareN_len ⟨x.up, (tickV x.view).1, x.items, x.log⟩
       have htn := (tickN_def x).trans (if_pos hB)
       (repeat' (first | ((with_reducible refine BdI ?_); (first | ((with_reducible refine SqI ?_ (fun Kv hN hX hR => ?_)); (next => exact rfl)) | ((with_reducible refine JnI ?_ ?_); (next => exact rfl)) | (conv => whnf))) | (with_reducible first | refine BdS (fun Kv hN hX hR => ?_) | refine Stop.mk ?_ | refine Join.mk ⟨fun Kv hN hX hR => ?_, ?_⟩ | apply DrawJ.join | exact SubJ.self _) | ((with_reducible refine SubJ.of ?_); (repeat' (first | with_reducible rfl | ((conv => whnf) <;> (first | with_reducible exact True.intro | with_reducible refine And.intro ?_ ?_ | with_reducible rfl | ((conv => rhs; whnf) <;> with_reducible rfl))))); done) | (with_reducible first | refine FlS (fun Kf hF => ?_) | refine FlN ?_ | refine NdS (fun Kg hG => ?_) | (refine hF _ _ ?_; clear hF; clear Kf) | (refine hG _ _ _ _ ?_; clear hG; clear Kg)) | ((with_reducible refine SqI ?_ (fun Kv hN hX hR => ?_)); (next => exact rfl)) | ((with_reducible refine JnI ?_ ?_); (next => exact rfl)) | ((with_reducible first | refine hN _ ?_ | refine hX _ _ ?_ | refine hR _ ?_); (try (clear hG; clear Kg)); clear hN hX hR; clear Kv) | ((conv => whnf); first | (with_reducible first | rfl | exact True.intro | intro _ | refine And.intro ?_ ?_) | ((with_reducible first | refine hN _ ?_ | refine hX _ _ ?_ | refine hR _ ?_); (try (clear hG; clear Kg)); clear hN hX hR; clear Kv) | (with_reducible first | refine BdS (fun Kv hN hX hR => ?_) | refine Stop.mk ?_ | refine Join.mk ⟨fun Kv hN hX hR => ?_, ?_⟩ | apply DrawJ.join | exact SubJ.self _) | ((with_reducible refine SubJ.of ?_); (repeat' (first | with_reducible rfl | ((conv => whnf) <;> (first | with_reducible exact True.intro | with_reducible refine And.intro ?_ ?_ | with_reducible rfl | ((conv => rhs; whnf) <;> with_reducible rfl))))); done) | (with_reducible first | refine FlS (fun Kf hF => ?_) | refine FlN ?_ | refine NdS (fun Kg hG => ?_) | (refine hF _ _ ?_; clear hF; clear Kf) | (refine hG _ _ _ _ ?_; clear hG; clear Kg))))); all_goals (conv => whnf); all_goals (repeat ((try (clear hG; clear Kg)); clear hN hX hR; clear Kv))
       all_goals (try simp only [Int.toNat_natCast, etaView, etaNode] at *)
       all_goals first
         | exact Ob.mk ⟨by omega, of_decide_eq_true (by with_reducible assumption)⟩
         | (refine Ob.mk ?_
            simp only [Rw.len, Rw.bts, Rw.kd, kdBytes, List.length_cons, List.length_nil, helloL_len, List.length_take]
            omega)
         | (have h := of_decide_eq_true (show decide ((i : Int) < ((tickV x.view).2.1.length : Nat)) = true by with_reducible assumption)
            have e1 := helloL_succ (v := (tickV x.view).1) (l := (tickV x.view).2.1) (i := i) (by omega)
            refine ⟨i + 1, by omega, by omega, ?_⟩
            (repeat' (first | ((with_reducible refine BdI ?_); (first | ((with_reducible refine SqI ?_ (fun Kv hN hX hR => ?_)); (next => exact rfl)) | ((with_reducible refine JnI ?_ ?_); (next => exact rfl)) | (conv => whnf))) | (with_reducible first | refine BdS (fun Kv hN hX hR => ?_) | refine Stop.mk ?_ | refine Join.mk ⟨fun Kv hN hX hR => ?_, ?_⟩ | refine DrawJ.each ?_ | exact SubJ.self _) | with_reducible refine SubJ.of ?_ | (with_reducible first | refine FlS (fun Kf hF => ?_) | refine FlN ?_ | refine NdS (fun Kg hG => ?_) | (refine hF _ _ ?_; clear hF; clear Kf) | (refine hG _ _ _ _ ?_; clear hG; clear Kg)) | ((with_reducible refine SqI ?_ (fun Kv hN hX hR => ?_)); (next => exact rfl)) | ((with_reducible refine JnI ?_ ?_); (next => exact rfl)) | ((with_reducible first | refine hN _ ?_ | refine hX _ _ ?_ | refine hR _ ?_); (try (clear hG; clear Kg)); clear hN hX hR; clear Kv) | ((conv => whnf); first | (with_reducible first | rfl | exact True.intro | intro _ | refine And.intro ?_ ?_) | ((with_reducible first | refine hN _ ?_ | refine hX _ _ ?_ | refine hR _ ?_); (try (clear hG; clear Kg)); clear hN hX hR; clear Kv) | (with_reducible first | refine BdS (fun Kv hN hX hR => ?_) | refine Stop.mk ?_ | refine Join.mk ⟨fun Kv hN hX hR => ?_, ?_⟩ | refine DrawJ.each ?_ | exact SubJ.self _) | with_reducible refine SubJ.of ?_ | (with_reducible first | refine FlS (fun Kf hF => ?_) | refine FlN ?_ | refine NdS (fun Kg hG => ?_) | (refine hF _ _ ?_; clear hF; clear Kf) | (refine hG _ _ _ _ ?_; clear hG; clear Kg))))); all_goals (conv => whnf); all_goals (repeat ((try (clear hG; clear Kg)); clear hN hX hR; clear Kv))
            all_goals first
              | exact wrapI (by omega) (by omega)
              | exact congrArg Rw.msgs e1.symm
              | rfl)
         | (have h := of_decide_eq_false (show decide ((i : Int) < ((tickV x.view).2.1.length : Nat)) = false by with_reducible assumption)
            rw [htn]
            first
              | done
              | rfl
              | rw [List.take_of_length_le (by omega)])
         | trace_state)
    | trace_state
end Go.Proofs.YtmhieddhmebfhaaGreat

/- Contracts: the document's: whose a key is; sharing; a node's turn. -/
namespace Go.Proofs.YtmhieddhmebfhaaGreat
open Go.RowKit
set_option maxRecDepth 20000
set_option maxHeartbeats 1000000 in
theorem k_refOwnerOf : Known Tryz.prog tau 127 (S2 dInts dInt oOwn) := by
  refine known2 hmix tau_ok (ctx_cons k_refPlace (ctx_cons k_refPlaces (ctx_cons k_reffar ctx_nil))) (fn := Tryz.f127) (by kernel_rfl) [] (by kernel_rfl) _ _ _ fun l k hfit => ⟨rfl,
    [(5, invX (Nat × Int) [6, 7, 29, 30, 31, 32, 33, 34, 35, 36, 37, 38, 39, 40, 41, 42, 43, 44, 45, 46, 47, 48] [] (fun g => 1 ≤ g.1 ∧ g.1 ≤ l.length ∧ minP k (l.getD 0 0) (l.drop 1) = minP k g.2 (l.drop g.1)) (fun g => match g with
      | (i, b) => withS [(7, .int .i64 i), (6, .int .i64 b)]) (fun g => l.length - g.1))], ?_⟩
  clear hfit
  (repeat' (first | ((with_reducible refine BdI ?_); (first | ((with_reducible refine SqI ?_ (fun Kv hN hX hR => ?_)); (next => exact rfl)) | ((with_reducible refine JnI ?_ ?_); (next => exact rfl)) | (conv => whnf))) | (with_reducible first | refine BdS (fun Kv hN hX hR => ?_) | refine Stop.mk ?_ | refine Join.mk ⟨fun Kv hN hX hR => ?_, ?_⟩ | refine DrawJ.each ?_ | exact SubJ.self _) | with_reducible refine SubJ.of ?_ | (with_reducible first | refine FlS (fun Kf hF => ?_) | refine FlN ?_ | refine NdS (fun Kg hG => ?_) | (refine hF _ _ ?_; clear hF; clear Kf) | (refine hG _ _ _ _ ?_; clear hG; clear Kg)) | ((with_reducible refine SqI ?_ (fun Kv hN hX hR => ?_)); (next => exact rfl)) | ((with_reducible refine JnI ?_ ?_); (next => exact rfl)) | ((with_reducible first | refine hN _ ?_ | refine hX _ _ ?_ | refine hR _ ?_); (try (clear hG; clear Kg)); clear hN hX hR; clear Kv) | ((conv => whnf); first | (with_reducible first | rfl | exact True.intro | refine (fun (_ : (_ : Prop)) => ?_) | refine And.intro ?_ ?_) | ((with_reducible first | refine hN _ ?_ | refine hX _ _ ?_ | refine hR _ ?_); (try (clear hG; clear Kg)); clear hN hX hR; clear Kv) | (with_reducible first | refine BdS (fun Kv hN hX hR => ?_) | refine Stop.mk ?_ | refine Join.mk ⟨fun Kv hN hX hR => ?_, ?_⟩ | refine DrawJ.each ?_ | exact SubJ.self _) | with_reducible refine SubJ.of ?_ | (with_reducible first | refine FlS (fun Kf hF => ?_) | refine FlN ?_ | refine NdS (fun Kg hG => ?_) | (refine hF _ _ ?_; clear hF; clear Kf) | (refine hG _ _ _ _ ?_; clear hG; clear Kg))))); all_goals (conv => whnf); all_goals (repeat ((try (clear hG; clear Kg)); clear hN hX hR; clear Kv))
  all_goals first
    | (have h := nf (show (!placeB k) = true by with_reducible assumption)
       rw [ownP_no (.inl (by unfold rowMayB; rw [h]; rfl))] <;> rfl)
    | (have h := nf (show (!l.all placeB) = true by with_reducible assumption)
       rw [ownP_no (.inl (by unfold rowMayB; rw [h]; simp))] <;> rfl)
    | (have h := of_decide_eq_true (show decide ((l.length : Int) = 0) = true by with_reducible assumption)
       rw [ownP_no (.inr (by omega))] <;> rfl)
    | (have h := of_decide_eq_true (show decide ((64 : Int) < (l.length : Nat)) = true by with_reducible assumption)
       rw [ownP_no (.inl (by unfold rowMayB; rw [decide_eq_false (show ¬ l.length ≤ 64 by omega)]; simp))] <;> rfl)
    | (have n1 := nt (show (!placeB k) = false by with_reducible assumption)
       have n2 := nt (show (!l.all placeB) = false by with_reducible assumption)
       have n3 := of_decide_eq_false (show decide ((l.length : Int) = 0) = false by with_reducible assumption)
       have n4 := of_decide_eq_false (show decide ((64 : Int) < (l.length : Nat)) = false by with_reducible assumption)
       have hy := ownP_yes (l := l) (k := k) (by unfold rowMayB; rw [n1, n2, decide_eq_true (show l.length ≤ 64 by omega)]; rfl) (by omega)
       first
         | exact Ob.mk ⟨by decide, by omega⟩
         | (refine ⟨(1, l.getD 0 0), ⟨Nat.le_refl _, by show 1 ≤ l.length; omega, rfl⟩, ?_⟩
            (repeat' (first | ((with_reducible refine BdI ?_); (first | ((with_reducible refine SqI ?_ (fun Kv hN hX hR => ?_)); (next => exact rfl)) | ((with_reducible refine JnI ?_ ?_); (next => exact rfl)) | (conv => whnf))) | (with_reducible first | refine BdS (fun Kv hN hX hR => ?_) | refine Stop.mk ?_ | refine Join.mk ⟨fun Kv hN hX hR => ?_, ?_⟩ | refine DrawJ.each ?_ | exact SubJ.self _) | with_reducible refine SubJ.of ?_ | (with_reducible first | refine FlS (fun Kf hF => ?_) | refine FlN ?_ | refine NdS (fun Kg hG => ?_) | (refine hF _ _ ?_; clear hF; clear Kf) | (refine hG _ _ _ _ ?_; clear hG; clear Kg)) | ((with_reducible refine SqI ?_ (fun Kv hN hX hR => ?_)); (next => exact rfl)) | ((with_reducible refine JnI ?_ ?_); (next => exact rfl)) | ((with_reducible first | refine hN _ ?_ | refine hX _ _ ?_ | refine hR _ ?_); (try (clear hG; clear Kg)); clear hN hX hR; clear Kv) | ((conv => whnf); first | (with_reducible first | rfl | exact True.intro | intro _ | refine And.intro ?_ ?_) | ((with_reducible first | refine hN _ ?_ | refine hX _ _ ?_ | refine hR _ ?_); (try (clear hG; clear Kg)); clear hN hX hR; clear Kv) | (with_reducible first | refine BdS (fun Kv hN hX hR => ?_) | refine Stop.mk ?_ | refine Join.mk ⟨fun Kv hN hX hR => ?_, ?_⟩ | refine DrawJ.each ?_ | exact SubJ.self _) | with_reducible refine SubJ.of ?_ | (with_reducible first | refine FlS (fun Kf hF => ?_) | refine FlN ?_ | refine NdS (fun Kg hG => ?_) | (refine hF _ _ ?_; clear hF; clear Kf) | (refine hG _ _ _ _ ?_; clear hG; clear Kg))))); all_goals (conv => whnf); all_goals (repeat ((try (clear hG; clear Kg)); clear hN hX hR; clear Kv))
            all_goals rfl)
         | (rintro ⟨i, b⟩ ⟨h1, h2, h3⟩
            dsimp only at h1 h2 h3
            (repeat' (first | ((with_reducible refine BdI ?_); (first | ((with_reducible refine SqI ?_ (fun Kv hN hX hR => ?_)); (next => exact rfl)) | ((with_reducible refine JnI ?_ ?_); (next => exact rfl)) | (conv => whnf))) | (with_reducible first | refine BdS (fun Kv hN hX hR => ?_) | refine Stop.mk ?_ | refine Join.mk ⟨fun Kv hN hX hR => ?_, ?_⟩ | refine DrawJ.each ?_ | exact SubJ.self _) | with_reducible refine SubJ.of ?_ | (with_reducible first | refine FlS (fun Kf hF => ?_) | refine FlN ?_ | refine NdS (fun Kg hG => ?_) | (refine hF _ _ ?_; clear hF; clear Kf) | (refine hG _ _ _ _ ?_; clear hG; clear Kg)) | ((with_reducible refine SqI ?_ (fun Kv hN hX hR => ?_)); (next => exact rfl)) | ((with_reducible refine JnI ?_ ?_); (next => exact rfl)) | ((with_reducible first | refine hN _ ?_ | refine hX _ _ ?_ | refine hR _ ?_); (try (clear hG; clear Kg)); clear hN hX hR; clear Kv) | ((conv => whnf); first | (with_reducible first | rfl | exact True.intro | intro _ | refine And.intro ?_ ?_) | ((with_reducible first | refine hN _ ?_ | refine hX _ _ ?_ | refine hR _ ?_); (try (clear hG; clear Kg)); clear hN hX hR; clear Kv) | (with_reducible first | refine BdS (fun Kv hN hX hR => ?_) | refine Stop.mk ?_ | refine Join.mk ⟨fun Kv hN hX hR => ?_, ?_⟩ | refine DrawJ.each ?_ | exact SubJ.self _) | with_reducible refine SubJ.of ?_ | (with_reducible first | refine FlS (fun Kf hF => ?_) | refine FlN ?_ | refine NdS (fun Kg hG => ?_) | (refine hF _ _ ?_; clear hF; clear Kf) | (refine hG _ _ _ _ ?_; clear hG; clear Kg))))); all_goals (conv => whnf); all_goals (repeat ((try (clear hG; clear Kg)); clear hN hX hR; clear Kv))
            all_goals (try dsimp only at *)
            all_goals (try simp only [Int.toNat_natCast] at *)
            all_goals first
              | exact Ob.mk ⟨by omega, of_decide_eq_true (by with_reducible assumption)⟩
              | (have h := of_decide_eq_true (show decide ((i : Int) < (l.length : Nat)) = true by with_reducible assumption)
                 have e1 := minP_next (k := k) (b := b) (l := l) (i := i) (by omega)
                 first
                   | (have h4 := of_decide_eq_true (show decide (farI k (l.getD i 0) < farI k b) = true by with_reducible assumption)
                      rw [if_pos h4] at e1
                      refine ⟨(i + 1, l.getD i 0), ⟨by show 1 ≤ i + 1; omega, by show i + 1 ≤ l.length; omega, h3.trans e1⟩, by show l.length - (i + 1) < l.length - i; omega, ?_⟩
                      (repeat' (first | ((with_reducible refine BdI ?_); (first | ((with_reducible refine SqI ?_ (fun Kv hN hX hR => ?_)); (next => exact rfl)) | ((with_reducible refine JnI ?_ ?_); (next => exact rfl)) | (conv => whnf))) | (with_reducible first | refine BdS (fun Kv hN hX hR => ?_) | refine Stop.mk ?_ | refine Join.mk ⟨fun Kv hN hX hR => ?_, ?_⟩ | refine DrawJ.each ?_ | exact SubJ.self _) | with_reducible refine SubJ.of ?_ | (with_reducible first | refine FlS (fun Kf hF => ?_) | refine FlN ?_ | refine NdS (fun Kg hG => ?_) | (refine hF _ _ ?_; clear hF; clear Kf) | (refine hG _ _ _ _ ?_; clear hG; clear Kg)) | ((with_reducible refine SqI ?_ (fun Kv hN hX hR => ?_)); (next => exact rfl)) | ((with_reducible refine JnI ?_ ?_); (next => exact rfl)) | ((with_reducible first | refine hN _ ?_ | refine hX _ _ ?_ | refine hR _ ?_); (try (clear hG; clear Kg)); clear hN hX hR; clear Kv) | ((conv => whnf); first | (with_reducible first | rfl | exact True.intro | intro _ | refine And.intro ?_ ?_) | ((with_reducible first | refine hN _ ?_ | refine hX _ _ ?_ | refine hR _ ?_); (try (clear hG; clear Kg)); clear hN hX hR; clear Kv) | (with_reducible first | refine BdS (fun Kv hN hX hR => ?_) | refine Stop.mk ?_ | refine Join.mk ⟨fun Kv hN hX hR => ?_, ?_⟩ | refine DrawJ.each ?_ | exact SubJ.self _) | with_reducible refine SubJ.of ?_ | (with_reducible first | refine FlS (fun Kf hF => ?_) | refine FlN ?_ | refine NdS (fun Kg hG => ?_) | (refine hF _ _ ?_; clear hF; clear Kf) | (refine hG _ _ _ _ ?_; clear hG; clear Kg))))); all_goals (conv => whnf); all_goals (repeat ((try (clear hG; clear Kg)); clear hN hX hR; clear Kv))
                      all_goals first
                        | exact wrapI (by omega) (by omega)
                        | rfl)
                   | (have h4 := of_decide_eq_false (show decide (farI k (l.getD i 0) < farI k b) = false by with_reducible assumption)
                      rw [if_neg h4] at e1
                      refine ⟨(i + 1, b), ⟨by show 1 ≤ i + 1; omega, by show i + 1 ≤ l.length; omega, h3.trans e1⟩, by show l.length - (i + 1) < l.length - i; omega, ?_⟩
                      (repeat' (first | ((with_reducible refine BdI ?_); (first | ((with_reducible refine SqI ?_ (fun Kv hN hX hR => ?_)); (next => exact rfl)) | ((with_reducible refine JnI ?_ ?_); (next => exact rfl)) | (conv => whnf))) | (with_reducible first | refine BdS (fun Kv hN hX hR => ?_) | refine Stop.mk ?_ | refine Join.mk ⟨fun Kv hN hX hR => ?_, ?_⟩ | refine DrawJ.each ?_ | exact SubJ.self _) | with_reducible refine SubJ.of ?_ | (with_reducible first | refine FlS (fun Kf hF => ?_) | refine FlN ?_ | refine NdS (fun Kg hG => ?_) | (refine hF _ _ ?_; clear hF; clear Kf) | (refine hG _ _ _ _ ?_; clear hG; clear Kg)) | ((with_reducible refine SqI ?_ (fun Kv hN hX hR => ?_)); (next => exact rfl)) | ((with_reducible refine JnI ?_ ?_); (next => exact rfl)) | ((with_reducible first | refine hN _ ?_ | refine hX _ _ ?_ | refine hR _ ?_); (try (clear hG; clear Kg)); clear hN hX hR; clear Kv) | ((conv => whnf); first | (with_reducible first | rfl | exact True.intro | intro _ | refine And.intro ?_ ?_) | ((with_reducible first | refine hN _ ?_ | refine hX _ _ ?_ | refine hR _ ?_); (try (clear hG; clear Kg)); clear hN hX hR; clear Kv) | (with_reducible first | refine BdS (fun Kv hN hX hR => ?_) | refine Stop.mk ?_ | refine Join.mk ⟨fun Kv hN hX hR => ?_, ?_⟩ | refine DrawJ.each ?_ | exact SubJ.self _) | with_reducible refine SubJ.of ?_ | (with_reducible first | refine FlS (fun Kf hF => ?_) | refine FlN ?_ | refine NdS (fun Kg hG => ?_) | (refine hF _ _ ?_; clear hF; clear Kf) | (refine hG _ _ _ _ ?_; clear hG; clear Kg))))); all_goals (conv => whnf); all_goals (repeat ((try (clear hG; clear Kg)); clear hN hX hR; clear Kv))
                      all_goals first
                        | exact wrapI (by omega) (by omega)
                        | rfl))
              | (have h := of_decide_eq_false (show decide ((i : Int) < (l.length : Nat)) = false by with_reducible assumption)
                 rw [hy]
                 first
                   | done
                   | rfl
                   | rw [h3, minP_end (by omega)])
              | trace_state)
         | trace_state)
    | trace_state
theorem minP_spec {k : Int} : ∀ (l : List Int) (b : Int), minP k b l ∈ b :: l ∧ ∀ y ∈ b :: l, farI k (minP k b l) ≤ farI k y
  | [], b => ⟨List.mem_cons_self, fun y hy => by rw [List.mem_singleton.1 hy]; exact Int.le_refl _⟩
  | x :: l, b => by
    unfold minP
    have ih := minP_spec (k := k) l (if farI k x < farI k b then x else b)
    refine ⟨?_, fun y hy => ?_⟩
    · rcases List.mem_cons.1 ih.1 with h | h
      · rw [h]
        split
        · exact List.mem_cons_of_mem _ List.mem_cons_self
        · exact List.mem_cons_self
      · exact List.mem_cons_of_mem _ (List.mem_cons_of_mem _ h)
    · have h0 := ih.2 _ List.mem_cons_self
      have hb : farI k (if farI k x < farI k b then x else b) ≤ farI k b ∧ farI k (if farI k x < farI k b then x else b) ≤ farI k x := by split <;> omega
      rcases List.mem_cons.1 hy with h | hy
      · subst h
        exact Int.le_trans h0 hb.1
      · rcases List.mem_cons.1 hy with h | hy
        · subst h
          exact Int.le_trans h0 hb.2
        · exact ih.2 y (List.mem_cons_of_mem _ hy)
theorem ownP_spec {l : List Int} {k : Int} (h : rowMayB k l = true) (h2 : 0 < l.length) : (ownP l k).1 ∈ l ∧ ∀ y ∈ l, farI k (ownP l k).1 ≤ farI k y := by
  rw [ownP_yes h h2]
  cases l with
  | nil => simp at h2
  | cons x l => exact minP_spec l x
theorem ownP_perm {l l' : List Int} {k : Int} (h : rowMayB k l = true) (h2 : 0 < l.length) (h' : rowMayB k l' = true) (h2' : 0 < l'.length) (hm : ∀ x, x ∈ l ↔ x ∈ l') : (ownP l k).1 = (ownP l' k).1 := by
  obtain ⟨a1, a2⟩ := ownP_spec h h2
  obtain ⟨b1, b2⟩ := ownP_spec h' h2'
  have pl : ∀ x ∈ l, placeB x = true := by
    simp only [rowMayB, Bool.and_eq_true, List.all_eq_true] at h
    exact h.2.2
  have pk : placeB k = true := by
    simp only [rowMayB, Bool.and_eq_true] at h
    exact h.1
  have e1 := a2 _ ((hm _).2 b1)
  have e2 := b2 _ ((hm _).1 a1)
  exact (far_inj pk (pl _ a1) (pl _ ((hm _).2 b1))).1 (by omega)
theorem view_row {v : GView} {k : Int} (hv : viewB v = true) (hk : placeB k = true) : rowMayB k ([v.id] ++ namesP v.peers) = true ∧ rowMayB k (namesP v.peers ++ [v.id]) = true := by
  have h := viewB_iff.1 hv
  have hp := peersB_iff.1 h.1
  have hn := namesP_len v.peers
  have ha : (namesP v.peers).all placeB = true := by
    rw [List.all_eq_true]
    intro x hx
    unfold namesP at hx
    obtain ⟨p, h1, rfl⟩ := List.mem_map.1 hx
    have := hp.2.2.2 p h1
    unfold peerB at this
    simp only [Bool.and_eq_true] at this
    exact this.1
  unfold rowMayB
  constructor
  · rw [hk, List.all_append, ha, decide_eq_true (show ([v.id] ++ namesP v.peers).length ≤ 64 by rw [List.length_append, hn]; simp; omega)]
    simp [hp.1]
  · rw [hk, List.all_append, ha, decide_eq_true (show (namesP v.peers ++ [v.id]).length ≤ 64 by rw [List.length_append, hn]; simp; omega)]
    simp [hp.1]
theorem ownV_ref {v : GView} {k : Int} (hv : viewB v = true) (hk : placeB k = true) : (ownP ([v.id] ++ namesP v.peers) k).1 = (ownP (namesP v.peers ++ [v.id]) k).1 := by
  obtain ⟨h1, h2⟩ := view_row hv hk
  refine ownP_perm h1 (by simp) h2 (by simp) fun x => ?_
  simp only [List.mem_append]
  exact Or.comm
theorem k_refOwner : Known Tryz.prog tau 88 (S2 dView dInt oOwnV) := by
  refine known2 hmix tau_ok (ctx_cons k_refView (ctx_cons k_refPlace (ctx_cons k_refNames (ctx_cons k_refOwnerOf ctx_nil)))) (fn := Tryz.f88) (by kernel_rfl) [] (by kernel_rfl) _ _ _ fun v k hfit => ⟨rfl, [], ?_⟩
  have hp : v.peers.length * 16 ≤ 140737488355328 := hfit.1.2.1
  clear hfit
  (repeat' (first | ((with_reducible refine BdI ?_); (first | ((with_reducible refine SqI ?_ (fun Kv hN hX hR => ?_)); (next => exact rfl)) | ((with_reducible refine JnI ?_ ?_); (next => exact rfl)) | (conv => whnf))) | (with_reducible first | refine BdS (fun Kv hN hX hR => ?_) | refine Stop.mk ?_ | refine Join.mk ⟨fun Kv hN hX hR => ?_, ?_⟩ | refine DrawJ.each ?_ | exact SubJ.self _) | with_reducible refine SubJ.of ?_ | (with_reducible first | refine FlS (fun Kf hF => ?_) | refine FlN ?_ | refine NdS (fun Kg hG => ?_) | (refine hF _ _ ?_; clear hF; clear Kf) | (refine hG _ _ _ _ ?_; clear hG; clear Kg)) | ((with_reducible refine SqI ?_ (fun Kv hN hX hR => ?_)); (next => exact rfl)) | ((with_reducible refine JnI ?_ ?_); (next => exact rfl)) | ((with_reducible first | refine hN _ ?_ | refine hX _ _ ?_ | refine hR _ ?_); (try (clear hG; clear Kg)); clear hN hX hR; clear Kv) | ((conv => whnf); first | (with_reducible first | rfl | exact True.intro | intro _ | refine And.intro ?_ ?_) | ((with_reducible first | refine hN _ ?_ | refine hX _ _ ?_ | refine hR _ ?_); (try (clear hG; clear Kg)); clear hN hX hR; clear Kv) | (with_reducible first | refine BdS (fun Kv hN hX hR => ?_) | refine Stop.mk ?_ | refine Join.mk ⟨fun Kv hN hX hR => ?_, ?_⟩ | refine DrawJ.each ?_ | exact SubJ.self _) | with_reducible refine SubJ.of ?_ | (with_reducible first | refine FlS (fun Kf hF => ?_) | refine FlN ?_ | refine NdS (fun Kg hG => ?_) | (refine hF _ _ ?_; clear hF; clear Kf) | (refine hG _ _ _ _ ?_; clear hG; clear Kg))))); all_goals (conv => whnf); all_goals (repeat ((try (clear hG; clear Kg)); clear hN hX hR; clear Kv))
  all_goals (try simp only [etaView] at *)
  all_goals first
    | (rw [ownV_no (.inl (nf (show (!viewB v) = true by with_reducible assumption)))]; done)
    | (rw [ownV_no (.inr (nf (show (!placeB k) = true by with_reducible assumption)))]; done)
    | (have h : viewB v = true := nt (by with_reducible assumption)
       have h2 : placeB k = true := nt (by with_reducible assumption)
       have h3 := (viewB_iff.1 h).2.2.1
       first
         | (refine Ob.mk ?_
            simp only [Rw.len, Rw.bts, Rw.kd, kdBytes, namesP_len, List.length_cons, List.length_nil]
            omega)
         | (rw [ownV_def, if_pos ⟨h, h2⟩]
            first
              | done
              | rfl
              | exact ownV_ref h h2)
         | trace_state)
    | trace_state
theorem names_0 (l : List GPeer) : (namesP l).getD 0 0 = (l.getD 0 default).id := by
  cases l <;> rfl
theorem k_refSucc : Known Tryz.prog tau 87 (S1 dView oSucc) := by
  refine known1 hmix tau_ok (ctx_cons k_refView ctx_nil) (fn := Tryz.f87) (by kernel_rfl) [] (by kernel_rfl) _ _ fun v hfit => ⟨rfl, [], ?_⟩
  clear hfit
  (repeat' (first | ((with_reducible refine BdI ?_); (first | ((with_reducible refine SqI ?_ (fun Kv hN hX hR => ?_)); (next => exact rfl)) | ((with_reducible refine JnI ?_ ?_); (next => exact rfl)) | (conv => whnf))) | (with_reducible first | refine BdS (fun Kv hN hX hR => ?_) | refine Stop.mk ?_ | refine Join.mk ⟨fun Kv hN hX hR => ?_, ?_⟩ | refine DrawJ.each ?_ | exact SubJ.self _) | with_reducible refine SubJ.of ?_ | (with_reducible first | refine FlS (fun Kf hF => ?_) | refine FlN ?_ | refine NdS (fun Kg hG => ?_) | (refine hF _ _ ?_; clear hF; clear Kf) | (refine hG _ _ _ _ ?_; clear hG; clear Kg)) | ((with_reducible refine SqI ?_ (fun Kv hN hX hR => ?_)); (next => exact rfl)) | ((with_reducible refine JnI ?_ ?_); (next => exact rfl)) | ((with_reducible first | refine hN _ ?_ | refine hX _ _ ?_ | refine hR _ ?_); (try (clear hG; clear Kg)); clear hN hX hR; clear Kv) | ((conv => whnf); first | (with_reducible first | rfl | exact True.intro | intro _ | refine And.intro ?_ ?_) | ((with_reducible first | refine hN _ ?_ | refine hX _ _ ?_ | refine hR _ ?_); (try (clear hG; clear Kg)); clear hN hX hR; clear Kv) | (with_reducible first | refine BdS (fun Kv hN hX hR => ?_) | refine Stop.mk ?_ | refine Join.mk ⟨fun Kv hN hX hR => ?_, ?_⟩ | refine DrawJ.each ?_ | exact SubJ.self _) | with_reducible refine SubJ.of ?_ | (with_reducible first | refine FlS (fun Kf hF => ?_) | refine FlN ?_ | refine NdS (fun Kg hG => ?_) | (refine hF _ _ ?_; clear hF; clear Kf) | (refine hG _ _ _ _ ?_; clear hG; clear Kg))))); all_goals (conv => whnf); all_goals (repeat ((try (clear hG; clear Kg)); clear hN hX hR; clear Kv))
  all_goals (try simp only [etaView] at *)
  all_goals first
    | (have h : viewB v = false := nf (by with_reducible assumption)
       rw [succV_def, if_neg (by rw [h]; simp)]
       done)
    | (have h : viewB v = true := nt (by with_reducible assumption)
       have h2 := of_decide_eq_true (show decide ((v.peers.length : Int) = 0) = true by with_reducible assumption)
       rw [succV_def, if_pos h, if_pos (by omega)]
       done)
    | (have h : viewB v = true := nt (by with_reducible assumption)
       have h2 := of_decide_eq_false (show decide ((v.peers.length : Int) = 0) = false by with_reducible assumption)
       first
         | exact Ob.mk ⟨by decide, by omega⟩
         | (rw [succV_def, if_pos h, if_neg (by omega)]
            first
              | done
              | rfl
              | exact (names_0 _).symm))
    | trace_state
theorem k_upMay : Known Tryz.prog tau 37 (S1 dNode fun x => okB (x.up && nodeB x)) := by
  refine known1 hmix tau_ok (ctx_cons k_refNode ctx_nil) (fn := Tryz.f37) (by kernel_rfl) [] (by kernel_rfl) _ _ fun x hfit => ⟨rfl, [], ?_⟩
  clear hfit
  (repeat' (first | ((with_reducible refine BdI ?_); (first | ((with_reducible refine SqI ?_ (fun Kv hN hX hR => ?_)); (next => exact rfl)) | ((with_reducible refine JnI ?_ ?_); (next => exact rfl)) | (conv => whnf))) | (with_reducible first | refine BdS (fun Kv hN hX hR => ?_) | refine Stop.mk ?_ | refine Join.mk ⟨fun Kv hN hX hR => ?_, ?_⟩ | refine DrawJ.each ?_ | exact SubJ.self _) | with_reducible refine SubJ.of ?_ | (with_reducible first | refine FlS (fun Kf hF => ?_) | refine FlN ?_ | refine NdS (fun Kg hG => ?_) | (refine hF _ _ ?_; clear hF; clear Kf) | (refine hG _ _ _ _ ?_; clear hG; clear Kg)) | ((with_reducible refine SqI ?_ (fun Kv hN hX hR => ?_)); (next => exact rfl)) | ((with_reducible refine JnI ?_ ?_); (next => exact rfl)) | ((with_reducible first | refine hN _ ?_ | refine hX _ _ ?_ | refine hR _ ?_); (try (clear hG; clear Kg)); clear hN hX hR; clear Kv) | ((conv => whnf); first | (with_reducible first | rfl | exact True.intro | intro _ | refine And.intro ?_ ?_) | ((with_reducible first | refine hN _ ?_ | refine hX _ _ ?_ | refine hR _ ?_); (try (clear hG; clear Kg)); clear hN hX hR; clear Kv) | (with_reducible first | refine BdS (fun Kv hN hX hR => ?_) | refine Stop.mk ?_ | refine Join.mk ⟨fun Kv hN hX hR => ?_, ?_⟩ | refine DrawJ.each ?_ | exact SubJ.self _) | with_reducible refine SubJ.of ?_ | (with_reducible first | refine FlS (fun Kf hF => ?_) | refine FlN ?_ | refine NdS (fun Kg hG => ?_) | (refine hF _ _ ?_; clear hF; clear Kf) | (refine hG _ _ _ _ ?_; clear hG; clear Kg))))); all_goals (conv => whnf); all_goals (repeat ((try (clear hG; clear Kg)); clear hN hX hR; clear Kv))
  all_goals (try simp only [etaNode] at *)
  all_goals first
    | (have h : x.up = true := by with_reducible assumption
       rw [h]
       rfl)
    | (have h : x.up = false := by with_reducible assumption
       rw [h]
       rfl)
    | trace_state
theorem k_refCopyNode : Known Tryz.prog tau 38 (S1 dNode fun x => .ok (.agg (nOwn4 x)) (nRows x)) := by
  refine known1 hmix tau_ok ctx_nil (fn := Tryz.f38) (by kernel_rfl) [] (by kernel_rfl) _ _ fun x hfit => ⟨rfl, [], ?_⟩
  have hp1 : x.view.peers.length * 16 ≤ 140737488355328 := hfit.1.2.2.1
  have hp2 : x.view.passive.length * 8 ≤ 140737488355328 := hfit.1.2.2.2.1
  have hp3 : x.items.length * 40 ≤ 140737488355328 := hfit.1.2.2.2.2.1
  have hp4 : x.log.length * 24 ≤ 140737488355328 := hfit.1.2.2.2.2.2.1
  clear hfit
  (repeat' (first | ((with_reducible refine BdI ?_); (first | ((with_reducible refine SqI ?_ (fun Kv hN hX hR => ?_)); (next => exact rfl)) | ((with_reducible refine JnI ?_ ?_); (next => exact rfl)) | (conv => whnf))) | (with_reducible first | refine BdS (fun Kv hN hX hR => ?_) | refine Stop.mk ?_ | refine Join.mk ⟨fun Kv hN hX hR => ?_, ?_⟩ | refine DrawJ.each ?_ | exact SubJ.self _) | with_reducible refine SubJ.of ?_ | (with_reducible first | refine FlS (fun Kf hF => ?_) | refine FlN ?_ | refine NdS (fun Kg hG => ?_) | (refine hF _ _ ?_; clear hF; clear Kf) | (refine hG _ _ _ _ ?_; clear hG; clear Kg)) | ((with_reducible refine SqI ?_ (fun Kv hN hX hR => ?_)); (next => exact rfl)) | ((with_reducible refine JnI ?_ ?_); (next => exact rfl)) | ((with_reducible first | refine hN _ ?_ | refine hX _ _ ?_ | refine hR _ ?_); (try (clear hG; clear Kg)); clear hN hX hR; clear Kv) | ((conv => whnf); first | (with_reducible first | rfl | exact True.intro | intro _ | refine And.intro ?_ ?_) | ((with_reducible first | refine hN _ ?_ | refine hX _ _ ?_ | refine hR _ ?_); (try (clear hG; clear Kg)); clear hN hX hR; clear Kv) | (with_reducible first | refine BdS (fun Kv hN hX hR => ?_) | refine Stop.mk ?_ | refine Join.mk ⟨fun Kv hN hX hR => ?_, ?_⟩ | refine DrawJ.each ?_ | exact SubJ.self _) | with_reducible refine SubJ.of ?_ | (with_reducible first | refine FlS (fun Kf hF => ?_) | refine FlN ?_ | refine NdS (fun Kg hG => ?_) | (refine hF _ _ ?_; clear hF; clear Kf) | (refine hG _ _ _ _ ?_; clear hG; clear Kg))))); all_goals (conv => whnf); all_goals (repeat ((try (clear hG; clear Kg)); clear hN hX hR; clear Kv))
  all_goals first
    | (refine Ob.mk ?_
       simp only [Rw.len, Rw.bts, Rw.kd, kdBytes, List.length_nil]
       omega)
    | rfl
    | trace_state
set_option maxHeartbeats 2000000 in
theorem k_refShare : Known Tryz.prog tau 41 (S1 dNode oShare) := by
  refine known1 hmix tau_ok (ctx_cons k_upMay (ctx_cons k_refSucc (ctx_cons k_refOwner ctx_nil))) (fn := Tryz.f41) (by kernel_rfl) [(8, [(0, 0), (1, 1), (2, 0), (3, 4), (4, 0), (5, 24), (6, 32), (7, 64), (8, 130), (9, 256), (10, 512), (11, 512), (12, 2047), (13, 8191)]), (12, [(0, 0), (1, 0), (2, 2), (3, 4), (4, 0), (5, 0), (6, 32), (7, 0), (8, 192), (9, 256), (10, 536), (11, 1024), (12, 2049), (13, 8191)])] (by kernel_rfl) _ _ fun x hfit => ⟨rfl,
    [(6, invA Nat [(4, 61, 7)] (4 :: 7 :: 8 :: 9 :: 19 :: 20 :: 21 :: 22 :: 23 :: 24 :: 25 :: 26 :: 27 :: 28 :: 29 :: 30 :: 31 :: 32 :: 33 :: 34 :: 35 :: 36 :: 37 :: 38 :: 39 :: 40 :: 41 :: 42 :: 43 :: 44 :: 45 :: 46 :: 47 :: 48 :: 49 :: 50 :: 51 :: 52 :: 53 :: 54 :: 55 :: 56 :: 57 :: 58 :: 59 :: 60 :: 61 :: []) [] (fun i => i ≤ x.items.length) (fun i => fun st => withS [(7, .int .i64 i), (4, .own 61)] (withR [(61, .own (.msgs (shareL x.view (x.items.take i))))] st)) (fun i => x.items.length - i))], ?_⟩
  have hp : x.items.length * 40 ≤ 140737488355328 := hfit.1.2.2.2.2.1
  clear hfit
  (repeat' (first | ((with_reducible refine BdI ?_); (first | ((with_reducible refine SqI ?_ (fun Kv hN hX hR => ?_)); (next => exact rfl)) | ((with_reducible refine JnI ?_ ?_); (next => exact rfl)) | (conv => whnf))) | (with_reducible first | refine BdS (fun Kv hN hX hR => ?_) | refine Stop.mk ?_ | refine Join.mk ⟨fun Kv hN hX hR => ?_, ?_⟩ | refine DrawJ.each ?_ | exact SubJ.self _) | with_reducible refine SubJ.of ?_ | (with_reducible first | refine FlS (fun Kf hF => ?_) | refine FlN ?_ | refine NdS (fun Kg hG => ?_) | (refine hF _ _ ?_; clear hF; clear Kf) | (refine hG _ _ _ _ ?_; clear hG; clear Kg)) | ((with_reducible refine SqI ?_ (fun Kv hN hX hR => ?_)); (next => exact rfl)) | ((with_reducible refine JnI ?_ ?_); (next => exact rfl)) | ((with_reducible first | refine hN _ ?_ | refine hX _ _ ?_ | refine hR _ ?_); (try (clear hG; clear Kg)); clear hN hX hR; clear Kv) | ((conv => whnf); first | (with_reducible first | rfl | exact True.intro | refine (fun (_ : (_ : Prop)) => ?_) | refine And.intro ?_ ?_) | ((with_reducible first | refine hN _ ?_ | refine hX _ _ ?_ | refine hR _ ?_); (try (clear hG; clear Kg)); clear hN hX hR; clear Kv) | (with_reducible first | refine BdS (fun Kv hN hX hR => ?_) | refine Stop.mk ?_ | refine Join.mk ⟨fun Kv hN hX hR => ?_, ?_⟩ | refine DrawJ.each ?_ | exact SubJ.self _) | with_reducible refine SubJ.of ?_ | (with_reducible first | refine FlS (fun Kf hF => ?_) | refine FlN ?_ | refine NdS (fun Kg hG => ?_) | (refine hF _ _ ?_; clear hF; clear Kf) | (refine hG _ _ _ _ ?_; clear hG; clear Kg))))); all_goals (conv => whnf); all_goals (repeat ((try (clear hG; clear Kg)); clear hN hX hR; clear Kv))
  all_goals first
    | (have h : (x.up && nodeB x) = false := nf (by with_reducible assumption)
       rw [shareN_def, if_neg (by rw [h]; simp)] <;> rfl)
    | (refine ⟨0, Nat.zero_le _, ?_⟩
       (repeat' (first | ((with_reducible refine BdI ?_); (first | ((with_reducible refine SqI ?_ (fun Kv hN hX hR => ?_)); (next => exact rfl)) | ((with_reducible refine JnI ?_ ?_); (next => exact rfl)) | (conv => whnf))) | (with_reducible first | refine BdS (fun Kv hN hX hR => ?_) | refine Stop.mk ?_ | refine Join.mk ⟨fun Kv hN hX hR => ?_, ?_⟩ | refine DrawJ.each ?_ | exact SubJ.self _) | with_reducible refine SubJ.of ?_ | (with_reducible first | refine FlS (fun Kf hF => ?_) | refine FlN ?_ | refine NdS (fun Kg hG => ?_) | (refine hF _ _ ?_; clear hF; clear Kf) | (refine hG _ _ _ _ ?_; clear hG; clear Kg)) | ((with_reducible refine SqI ?_ (fun Kv hN hX hR => ?_)); (next => exact rfl)) | ((with_reducible refine JnI ?_ ?_); (next => exact rfl)) | ((with_reducible first | refine hN _ ?_ | refine hX _ _ ?_ | refine hR _ ?_); (try (clear hG; clear Kg)); clear hN hX hR; clear Kv) | ((conv => whnf); first | (with_reducible first | rfl | exact True.intro | intro _ | refine And.intro ?_ ?_) | ((with_reducible first | refine hN _ ?_ | refine hX _ _ ?_ | refine hR _ ?_); (try (clear hG; clear Kg)); clear hN hX hR; clear Kv) | (with_reducible first | refine BdS (fun Kv hN hX hR => ?_) | refine Stop.mk ?_ | refine Join.mk ⟨fun Kv hN hX hR => ?_, ?_⟩ | refine DrawJ.each ?_ | exact SubJ.self _) | with_reducible refine SubJ.of ?_ | (with_reducible first | refine FlS (fun Kf hF => ?_) | refine FlN ?_ | refine NdS (fun Kg hG => ?_) | (refine hF _ _ ?_; clear hF; clear Kf) | (refine hG _ _ _ _ ?_; clear hG; clear Kg))))); all_goals (conv => whnf); all_goals (repeat ((try (clear hG; clear Kg)); clear hN hX hR; clear Kv))
       all_goals rfl)
    | (with_reducible intro i hi
       have hi : i ≤ x.items.length := hi
       have hB : (x.up && nodeB x) = true := nt (by with_reducible assumption)
       have hst := (storeB_iff.1 (by
         have := (Bool.and_eq_true _ _ ▸ hB).2
         unfold nodeB at this
         simp only [Bool.and_eq_true] at this
         exact this.2.1 : storeB x.items = true)).1
       have g2 := shareL_len x.view (x.items.take i)
       rw [List.length_take] at g2
       (repeat' (first | ((with_reducible refine BdI ?_); (first | ((with_reducible refine SqI ?_ (fun Kv hN hX hR => ?_)); (next => exact rfl)) | ((with_reducible refine JnI ?_ ?_); (next => exact rfl)) | (conv => whnf))) | (with_reducible first | refine BdS (fun Kv hN hX hR => ?_) | refine Stop.mk ?_ | refine Join.mk ⟨fun Kv hN hX hR => ?_, ?_⟩ | refine DrawJ.each ?_ | exact SubJ.self _) | with_reducible refine SubJ.of ?_ | (with_reducible first | refine FlS (fun Kf hF => ?_) | refine FlN ?_ | refine NdS (fun Kg hG => ?_) | (refine hF _ _ ?_; clear hF; clear Kf) | (refine hG _ _ _ _ ?_; clear hG; clear Kg)) | ((with_reducible refine SqI ?_ (fun Kv hN hX hR => ?_)); (next => exact rfl)) | ((with_reducible refine JnI ?_ ?_); (next => exact rfl)) | ((with_reducible first | refine hN _ ?_ | refine hX _ _ ?_ | refine hR _ ?_); (try (clear hG; clear Kg)); clear hN hX hR; clear Kv) | ((conv => whnf); first | (with_reducible first | rfl | exact True.intro | intro _ | refine And.intro ?_ ?_) | ((with_reducible first | refine hN _ ?_ | refine hX _ _ ?_ | refine hR _ ?_); (try (clear hG; clear Kg)); clear hN hX hR; clear Kv) | (with_reducible first | refine BdS (fun Kv hN hX hR => ?_) | refine Stop.mk ?_ | refine Join.mk ⟨fun Kv hN hX hR => ?_, ?_⟩ | refine DrawJ.each ?_ | exact SubJ.self _) | with_reducible refine SubJ.of ?_ | (with_reducible first | refine FlS (fun Kf hF => ?_) | refine FlN ?_ | refine NdS (fun Kg hG => ?_) | (refine hF _ _ ?_; clear hF; clear Kf) | (refine hG _ _ _ _ ?_; clear hG; clear Kg))))); all_goals (conv => whnf); all_goals (repeat ((try (clear hG; clear Kg)); clear hN hX hR; clear Kv))
       all_goals (try simp only [Int.toNat_natCast, etaView, etaItem] at *)
       all_goals first
         | exact Ob.mk ⟨by omega, of_decide_eq_true (by with_reducible assumption)⟩
         | (refine Ob.mk ?_
            simp only [Rw.len, Rw.bts, Rw.kd, kdBytes, List.length_cons, List.length_nil]
            omega)
         | (have h := of_decide_eq_true (show decide ((i : Int) < (x.items.length : Nat)) = true by with_reducible assumption)
            have e1 := shareL_succ (v := x.view) (l := x.items) (i := i) (by omega)
            have go : ∀ ys, shareL x.view (x.items.take (i + 1)) = shareL x.view (x.items.take i) ++ ys → shareL x.view (x.items.take i) ++ ys = shareL x.view (x.items.take (i + 1)) := fun ys h => h.symm
            first
              | (have h1 := of_decide_eq_true (show decide ((ownV x.view (x.items.getD i default).key).1 = x.view.id) = true by with_reducible assumption)
                 have ht : toV x.view (x.items.getD i default).key = (succV x.view).1 := by unfold toV; rw [if_pos h1]
                 rw [ht] at e1
                 first
                   | (have h2 := of_decide_eq_false (nf (show (!decide ((succV x.view).1 = x.view.id)) = true by with_reducible assumption))
                      rw [if_neg h2] at e1
                      refine ⟨i + 1, by omega, by omega, ?_⟩
                      (repeat' (first | ((with_reducible refine BdI ?_); (first | ((with_reducible refine SqI ?_ (fun Kv hN hX hR => ?_)); (next => exact rfl)) | ((with_reducible refine JnI ?_ ?_); (next => exact rfl)) | (conv => whnf))) | (with_reducible first | refine BdS (fun Kv hN hX hR => ?_) | refine Stop.mk ?_ | refine Join.mk ⟨fun Kv hN hX hR => ?_, ?_⟩ | refine DrawJ.each ?_ | exact SubJ.self _) | with_reducible refine SubJ.of ?_ | (with_reducible first | refine FlS (fun Kf hF => ?_) | refine FlN ?_ | refine NdS (fun Kg hG => ?_) | (refine hF _ _ ?_; clear hF; clear Kf) | (refine hG _ _ _ _ ?_; clear hG; clear Kg)) | ((with_reducible refine SqI ?_ (fun Kv hN hX hR => ?_)); (next => exact rfl)) | ((with_reducible refine JnI ?_ ?_); (next => exact rfl)) | ((with_reducible first | refine hN _ ?_ | refine hX _ _ ?_ | refine hR _ ?_); (try (clear hG; clear Kg)); clear hN hX hR; clear Kv) | ((conv => whnf); first | (with_reducible first | rfl | exact True.intro | intro _ | refine And.intro ?_ ?_) | ((with_reducible first | refine hN _ ?_ | refine hX _ _ ?_ | refine hR _ ?_); (try (clear hG; clear Kg)); clear hN hX hR; clear Kv) | (with_reducible first | refine BdS (fun Kv hN hX hR => ?_) | refine Stop.mk ?_ | refine Join.mk ⟨fun Kv hN hX hR => ?_, ?_⟩ | refine DrawJ.each ?_ | exact SubJ.self _) | with_reducible refine SubJ.of ?_ | (with_reducible first | refine FlS (fun Kf hF => ?_) | refine FlN ?_ | refine NdS (fun Kg hG => ?_) | (refine hF _ _ ?_; clear hF; clear Kf) | (refine hG _ _ _ _ ?_; clear hG; clear Kg))))); all_goals (conv => whnf); all_goals (repeat ((try (clear hG; clear Kg)); clear hN hX hR; clear Kv))
                      all_goals first
                        | exact wrapI (by omega) (by omega)
                        | exact congrArg Rw.msgs e1.symm
                        | rfl)
                   | (have h2 := of_decide_eq_true (nt (show (!decide ((succV x.view).1 = x.view.id)) = false by with_reducible assumption))
                      rw [if_pos h2, List.append_nil] at e1
                      refine ⟨i + 1, by omega, by omega, ?_⟩
                      (repeat' (first | ((with_reducible refine BdI ?_); (first | ((with_reducible refine SqI ?_ (fun Kv hN hX hR => ?_)); (next => exact rfl)) | ((with_reducible refine JnI ?_ ?_); (next => exact rfl)) | (conv => whnf))) | (with_reducible first | refine BdS (fun Kv hN hX hR => ?_) | refine Stop.mk ?_ | refine Join.mk ⟨fun Kv hN hX hR => ?_, ?_⟩ | refine DrawJ.each ?_ | exact SubJ.self _) | with_reducible refine SubJ.of ?_ | (with_reducible first | refine FlS (fun Kf hF => ?_) | refine FlN ?_ | refine NdS (fun Kg hG => ?_) | (refine hF _ _ ?_; clear hF; clear Kf) | (refine hG _ _ _ _ ?_; clear hG; clear Kg)) | ((with_reducible refine SqI ?_ (fun Kv hN hX hR => ?_)); (next => exact rfl)) | ((with_reducible refine JnI ?_ ?_); (next => exact rfl)) | ((with_reducible first | refine hN _ ?_ | refine hX _ _ ?_ | refine hR _ ?_); (try (clear hG; clear Kg)); clear hN hX hR; clear Kv) | ((conv => whnf); first | (with_reducible first | rfl | exact True.intro | intro _ | refine And.intro ?_ ?_) | ((with_reducible first | refine hN _ ?_ | refine hX _ _ ?_ | refine hR _ ?_); (try (clear hG; clear Kg)); clear hN hX hR; clear Kv) | (with_reducible first | refine BdS (fun Kv hN hX hR => ?_) | refine Stop.mk ?_ | refine Join.mk ⟨fun Kv hN hX hR => ?_, ?_⟩ | refine DrawJ.each ?_ | exact SubJ.self _) | with_reducible refine SubJ.of ?_ | (with_reducible first | refine FlS (fun Kf hF => ?_) | refine FlN ?_ | refine NdS (fun Kg hG => ?_) | (refine hF _ _ ?_; clear hF; clear Kf) | (refine hG _ _ _ _ ?_; clear hG; clear Kg))))); all_goals (conv => whnf); all_goals (repeat ((try (clear hG; clear Kg)); clear hN hX hR; clear Kv))
                      all_goals first
                        | exact wrapI (by omega) (by omega)
                        | exact congrArg Rw.msgs e1.symm
                        | rfl))
              | (have h1 := of_decide_eq_false (show decide ((ownV x.view (x.items.getD i default).key).1 = x.view.id) = false by with_reducible assumption)
                 have ht : toV x.view (x.items.getD i default).key = (ownV x.view (x.items.getD i default).key).1 := by unfold toV; rw [if_neg h1]
                 rw [ht, if_neg h1] at e1
                 first
                   | exact absurd (of_decide_eq_true (nt (show (!decide ((ownV x.view (x.items.getD i default).key).1 = x.view.id)) = false by with_reducible assumption))) h1
                   | (refine ⟨i + 1, by omega, by omega, ?_⟩
                      (repeat' (first | ((with_reducible refine BdI ?_); (first | ((with_reducible refine SqI ?_ (fun Kv hN hX hR => ?_)); (next => exact rfl)) | ((with_reducible refine JnI ?_ ?_); (next => exact rfl)) | (conv => whnf))) | (with_reducible first | refine BdS (fun Kv hN hX hR => ?_) | refine Stop.mk ?_ | refine Join.mk ⟨fun Kv hN hX hR => ?_, ?_⟩ | refine DrawJ.each ?_ | exact SubJ.self _) | with_reducible refine SubJ.of ?_ | (with_reducible first | refine FlS (fun Kf hF => ?_) | refine FlN ?_ | refine NdS (fun Kg hG => ?_) | (refine hF _ _ ?_; clear hF; clear Kf) | (refine hG _ _ _ _ ?_; clear hG; clear Kg)) | ((with_reducible refine SqI ?_ (fun Kv hN hX hR => ?_)); (next => exact rfl)) | ((with_reducible refine JnI ?_ ?_); (next => exact rfl)) | ((with_reducible first | refine hN _ ?_ | refine hX _ _ ?_ | refine hR _ ?_); (try (clear hG; clear Kg)); clear hN hX hR; clear Kv) | ((conv => whnf); first | (with_reducible first | rfl | exact True.intro | intro _ | refine And.intro ?_ ?_) | ((with_reducible first | refine hN _ ?_ | refine hX _ _ ?_ | refine hR _ ?_); (try (clear hG; clear Kg)); clear hN hX hR; clear Kv) | (with_reducible first | refine BdS (fun Kv hN hX hR => ?_) | refine Stop.mk ?_ | refine Join.mk ⟨fun Kv hN hX hR => ?_, ?_⟩ | refine DrawJ.each ?_ | exact SubJ.self _) | with_reducible refine SubJ.of ?_ | (with_reducible first | refine FlS (fun Kf hF => ?_) | refine FlN ?_ | refine NdS (fun Kg hG => ?_) | (refine hF _ _ ?_; clear hF; clear Kf) | (refine hG _ _ _ _ ?_; clear hG; clear Kg))))); all_goals (conv => whnf); all_goals (repeat ((try (clear hG; clear Kg)); clear hN hX hR; clear Kv))
                      all_goals first
                        | exact wrapI (by omega) (by omega)
                        | exact congrArg Rw.msgs e1.symm
                        | rfl)))
         | (have h := of_decide_eq_false (show decide ((i : Int) < (x.items.length : Nat)) = false by with_reducible assumption)
            rw [shareN_def, if_pos hB]
            first
              | done
              | rfl
              | rw [List.take_of_length_le (by omega)])
         | trace_state)
    | trace_state
set_option maxHeartbeats 4000000 in
theorem k_refTick : Known Tryz.prog tau 9 (S1 dNode oTick) := by
  refine known1 hmix tau_ok (ctx_cons k_upMay (ctx_cons k_refCopyNode (ctx_cons k_refAgeView (ctx_cons k_refNames (ctx_cons k_refShare ctx_nil))))) (fn := Tryz.f9) (by kernel_rfl) [(10, [(0, 0), (1, 0), (2, 2), (3, 0), (4, 0), (5, 24), (6, 32), (7, 0), (8, 128), (9, 256), (10, 580), (11, 1024), (12, 2561), (13, 8191)])] (by kernel_rfl) _ _ fun x hfit => ⟨rfl,
    [(8, invA Nat [(9, 46, 7)] [9, 10, 28, 29, 30, 31, 32, 33, 34, 35, 36, 37, 38, 39, 40, 41, 42, 43, 44, 45, 46] [] (fun i => i ≤ (tickV x.view).2.1.length) (fun i => fun st => withS [(10, .int .i64 i), (9, .own 46)] (withR [(46, .own (.msgs (helloL (tickV x.view).1 ((tickV x.view).2.1.take i))))] st)) (fun i => (tickV x.view).2.1.length - i))], ?_⟩
  have hp : x.items.length * 40 ≤ 140737488355328 := hfit.1.2.2.2.2.1
  clear hfit
  (repeat' (first | ((with_reducible refine BdI ?_); (first | ((with_reducible refine SqI ?_ (fun Kv hN hX hR => ?_)); (next => exact rfl)) | ((with_reducible refine JnI ?_ ?_); (next => exact rfl)) | (conv => whnf))) | (with_reducible first | refine BdS (fun Kv hN hX hR => ?_) | refine Stop.mk ?_ | refine Join.mk ⟨fun Kv hN hX hR => ?_, ?_⟩ | refine DrawJ.each ?_ | exact SubJ.self _) | with_reducible refine SubJ.of ?_ | (with_reducible first | refine FlS (fun Kf hF => ?_) | refine FlN ?_ | refine NdS (fun Kg hG => ?_) | (refine hF _ _ ?_; clear hF; clear Kf) | (refine hG _ _ _ _ ?_; clear hG; clear Kg)) | ((with_reducible refine SqI ?_ (fun Kv hN hX hR => ?_)); (next => exact rfl)) | ((with_reducible refine JnI ?_ ?_); (next => exact rfl)) | ((with_reducible first | refine hN _ ?_ | refine hX _ _ ?_ | refine hR _ ?_); (try (clear hG; clear Kg)); clear hN hX hR; clear Kv) | ((conv => whnf); first | (with_reducible first | rfl | exact True.intro | refine (fun (_ : (_ : Prop)) => ?_) | refine And.intro ?_ ?_) | ((with_reducible first | refine hN _ ?_ | refine hX _ _ ?_ | refine hR _ ?_); (try (clear hG; clear Kg)); clear hN hX hR; clear Kv) | (with_reducible first | refine BdS (fun Kv hN hX hR => ?_) | refine Stop.mk ?_ | refine Join.mk ⟨fun Kv hN hX hR => ?_, ?_⟩ | refine DrawJ.each ?_ | exact SubJ.self _) | with_reducible refine SubJ.of ?_ | (with_reducible first | refine FlS (fun Kf hF => ?_) | refine FlN ?_ | refine NdS (fun Kg hG => ?_) | (refine hF _ _ ?_; clear hF; clear Kf) | (refine hG _ _ _ _ ?_; clear hG; clear Kg))))); all_goals (conv => whnf); all_goals (repeat ((try (clear hG; clear Kg)); clear hN hX hR; clear Kv))
  all_goals first
    | (have h : (x.up && nodeB x) = false := nf (by with_reducible assumption)
       rw [tickN_def, if_neg (by rw [h]; simp)] <;> rfl)
    | (refine ⟨0, Nat.zero_le _, ?_⟩
       (repeat' (first | ((with_reducible refine BdI ?_); (first | ((with_reducible refine SqI ?_ (fun Kv hN hX hR => ?_)); (next => exact rfl)) | ((with_reducible refine JnI ?_ ?_); (next => exact rfl)) | (conv => whnf))) | (with_reducible first | refine BdS (fun Kv hN hX hR => ?_) | refine Stop.mk ?_ | refine Join.mk ⟨fun Kv hN hX hR => ?_, ?_⟩ | refine DrawJ.each ?_ | exact SubJ.self _) | with_reducible refine SubJ.of ?_ | (with_reducible first | refine FlS (fun Kf hF => ?_) | refine FlN ?_ | refine NdS (fun Kg hG => ?_) | (refine hF _ _ ?_; clear hF; clear Kf) | (refine hG _ _ _ _ ?_; clear hG; clear Kg)) | ((with_reducible refine SqI ?_ (fun Kv hN hX hR => ?_)); (next => exact rfl)) | ((with_reducible refine JnI ?_ ?_); (next => exact rfl)) | ((with_reducible first | refine hN _ ?_ | refine hX _ _ ?_ | refine hR _ ?_); (try (clear hG; clear Kg)); clear hN hX hR; clear Kv) | ((conv => whnf); first | (with_reducible first | rfl | exact True.intro | intro _ | refine And.intro ?_ ?_) | ((with_reducible first | refine hN _ ?_ | refine hX _ _ ?_ | refine hR _ ?_); (try (clear hG; clear Kg)); clear hN hX hR; clear Kv) | (with_reducible first | refine BdS (fun Kv hN hX hR => ?_) | refine Stop.mk ?_ | refine Join.mk ⟨fun Kv hN hX hR => ?_, ?_⟩ | refine DrawJ.each ?_ | exact SubJ.self _) | with_reducible refine SubJ.of ?_ | (with_reducible first | refine FlS (fun Kf hF => ?_) | refine FlN ?_ | refine NdS (fun Kg hG => ?_) | (refine hF _ _ ?_; clear hF; clear Kf) | (refine hG _ _ _ _ ?_; clear hG; clear Kg))))); all_goals (conv => whnf); all_goals (repeat ((try (clear hG; clear Kg)); clear hN hX hR; clear Kv))
       all_goals rfl)
    | (with_reducible intro i hi
       have hi : i ≤ (tickV x.view).2.1.length := hi
       have hB : (x.up && nodeB x) = true := nt (by with_reducible assumption)
       obtain ⟨b1, b2, b3, b4⟩ := up_view hB
       have t := tick_ok b3
       have tl := congrArg List.length t.2.2.2.2.1
       rw [List.length_append, namesP_len, ← t.2.2.1] at tl
       have t16 := (viewB_iff.1 t.1).2.2.1
       have s16 := (storeB_iff.1 b4).1
       have g3 := shareN_len ⟨x.up, (tickV x.view).1, x.items, x.log⟩
       have htn := (tickN_def x).trans (if_pos hB)
       (repeat' (first | ((with_reducible refine BdI ?_); (first | ((with_reducible refine SqI ?_ (fun Kv hN hX hR => ?_)); (next => exact rfl)) | ((with_reducible refine JnI ?_ ?_); (next => exact rfl)) | (conv => whnf))) | (with_reducible first | refine BdS (fun Kv hN hX hR => ?_) | refine Stop.mk ?_ | refine Join.mk ⟨fun Kv hN hX hR => ?_, ?_⟩ | refine DrawJ.each ?_ | exact SubJ.self _) | with_reducible refine SubJ.of ?_ | (with_reducible first | refine FlS (fun Kf hF => ?_) | refine FlN ?_ | refine NdS (fun Kg hG => ?_) | (refine hF _ _ ?_; clear hF; clear Kf) | (refine hG _ _ _ _ ?_; clear hG; clear Kg)) | ((with_reducible refine SqI ?_ (fun Kv hN hX hR => ?_)); (next => exact rfl)) | ((with_reducible refine JnI ?_ ?_); (next => exact rfl)) | ((with_reducible first | refine hN _ ?_ | refine hX _ _ ?_ | refine hR _ ?_); (try (clear hG; clear Kg)); clear hN hX hR; clear Kv) | ((conv => whnf); first | (with_reducible first | rfl | exact True.intro | intro _ | refine And.intro ?_ ?_) | ((with_reducible first | refine hN _ ?_ | refine hX _ _ ?_ | refine hR _ ?_); (try (clear hG; clear Kg)); clear hN hX hR; clear Kv) | (with_reducible first | refine BdS (fun Kv hN hX hR => ?_) | refine Stop.mk ?_ | refine Join.mk ⟨fun Kv hN hX hR => ?_, ?_⟩ | refine DrawJ.each ?_ | exact SubJ.self _) | with_reducible refine SubJ.of ?_ | (with_reducible first | refine FlS (fun Kf hF => ?_) | refine FlN ?_ | refine NdS (fun Kg hG => ?_) | (refine hF _ _ ?_; clear hF; clear Kf) | (refine hG _ _ _ _ ?_; clear hG; clear Kg))))); all_goals (conv => whnf); all_goals (repeat ((try (clear hG; clear Kg)); clear hN hX hR; clear Kv))
       all_goals (try simp only [Int.toNat_natCast, etaView, etaNode] at *)
       all_goals first
         | exact Ob.mk ⟨by omega, of_decide_eq_true (by with_reducible assumption)⟩
         | (refine Ob.mk ?_
            simp only [Rw.len, Rw.bts, Rw.kd, kdBytes, List.length_cons, List.length_nil, helloL_len, List.length_take]
            omega)
         | (have h := of_decide_eq_true (show decide ((i : Int) < ((tickV x.view).2.1.length : Nat)) = true by with_reducible assumption)
            have e1 := helloL_succ (v := (tickV x.view).1) (l := (tickV x.view).2.1) (i := i) (by omega)
            refine ⟨i + 1, by omega, by omega, ?_⟩
            (repeat' (first | ((with_reducible refine BdI ?_); (first | ((with_reducible refine SqI ?_ (fun Kv hN hX hR => ?_)); (next => exact rfl)) | ((with_reducible refine JnI ?_ ?_); (next => exact rfl)) | (conv => whnf))) | (with_reducible first | refine BdS (fun Kv hN hX hR => ?_) | refine Stop.mk ?_ | refine Join.mk ⟨fun Kv hN hX hR => ?_, ?_⟩ | refine DrawJ.each ?_ | exact SubJ.self _) | with_reducible refine SubJ.of ?_ | (with_reducible first | refine FlS (fun Kf hF => ?_) | refine FlN ?_ | refine NdS (fun Kg hG => ?_) | (refine hF _ _ ?_; clear hF; clear Kf) | (refine hG _ _ _ _ ?_; clear hG; clear Kg)) | ((with_reducible refine SqI ?_ (fun Kv hN hX hR => ?_)); (next => exact rfl)) | ((with_reducible refine JnI ?_ ?_); (next => exact rfl)) | ((with_reducible first | refine hN _ ?_ | refine hX _ _ ?_ | refine hR _ ?_); (try (clear hG; clear Kg)); clear hN hX hR; clear Kv) | ((conv => whnf); first | (with_reducible first | rfl | exact True.intro | intro _ | refine And.intro ?_ ?_) | ((with_reducible first | refine hN _ ?_ | refine hX _ _ ?_ | refine hR _ ?_); (try (clear hG; clear Kg)); clear hN hX hR; clear Kv) | (with_reducible first | refine BdS (fun Kv hN hX hR => ?_) | refine Stop.mk ?_ | refine Join.mk ⟨fun Kv hN hX hR => ?_, ?_⟩ | refine DrawJ.each ?_ | exact SubJ.self _) | with_reducible refine SubJ.of ?_ | (with_reducible first | refine FlS (fun Kf hF => ?_) | refine FlN ?_ | refine NdS (fun Kg hG => ?_) | (refine hF _ _ ?_; clear hF; clear Kf) | (refine hG _ _ _ _ ?_; clear hG; clear Kg))))); all_goals (conv => whnf); all_goals (repeat ((try (clear hG; clear Kg)); clear hN hX hR; clear Kv))
            all_goals first
              | exact wrapI (by omega) (by omega)
              | exact congrArg Rw.msgs e1.symm
              | rfl)
         | (have h := of_decide_eq_false (show decide ((i : Int) < ((tickV x.view).2.1.length : Nat)) = false by with_reducible assumption)
            rw [htn]
            first
              | done
              | rfl
              | rw [List.take_of_length_le (by omega)])
         | trace_state)
    | trace_state
end Go.Proofs.YtmhieddhmebfhaaGreat

/- Contracts: the laws' comparisons: Peers. -/
namespace Go.Proofs.YtmhieddhmebfhaaGreat
open Go.RowKit
set_option maxRecDepth 20000

theorem k_SamePeers : Known Tryz.prog tau 89 (S2 dPeers dPeers fun a b => okB (decide (a = b))) := by
  refine known2 hmix tau_ok ctx_nil (fn := Tryz.f89) (by kernel_rfl) [(6, [(0, 0), (1, 0), (2, 3), (3, 4), (4, 0), (5, 0), (6, 48), (7, 64), (8, 136)])] (by kernel_rfl) _ _ _ fun xs ys hfit => ⟨rfl,
    [(4, invN [4, 5, 11, 12, 13, 14, 15, 16, 17, 18, 19, 20, 21, 22, 23, 24, 25] (fun i => i ≤ xs.length ∧ ∀ j, j < i → xs.getD j default = ys.getD j default) (fun i => withS [(5, .int .i64 i)]) (fun i => xs.length - i))], ?_⟩
  have hlen : xs.length * 16 ≤ 140737488355328 := hfit.1
  clear hfit
  (repeat' (first | ((with_reducible refine BdI ?_); (first | ((with_reducible refine SqI ?_ (fun Kv hN hX hR => ?_)); (next => exact rfl)) | ((with_reducible refine JnI ?_ ?_); (next => exact rfl)) | (conv => whnf))) | (with_reducible first | refine BdS (fun Kv hN hX hR => ?_) | refine Stop.mk ?_ | refine Join.mk ⟨fun Kv hN hX hR => ?_, ?_⟩ | refine DrawJ.each ?_ | exact SubJ.self _) | with_reducible refine SubJ.of ?_ | (with_reducible first | refine FlS (fun Kf hF => ?_) | refine FlN ?_ | refine NdS (fun Kg hG => ?_) | (refine hF _ _ ?_; clear hF; clear Kf) | (refine hG _ _ _ _ ?_; clear hG; clear Kg)) | ((with_reducible refine SqI ?_ (fun Kv hN hX hR => ?_)); (next => exact rfl)) | ((with_reducible refine JnI ?_ ?_); (next => exact rfl)) | ((with_reducible first | refine hN _ ?_ | refine hX _ _ ?_ | refine hR _ ?_); (try (clear hG; clear Kg)); clear hN hX hR; clear Kv) | ((conv => whnf); first | (with_reducible first | rfl | exact True.intro | refine (fun (_ : (_ : Prop)) => ?_) | refine And.intro ?_ ?_) | ((with_reducible first | refine hN _ ?_ | refine hX _ _ ?_ | refine hR _ ?_); (try (clear hG; clear Kg)); clear hN hX hR; clear Kv) | (with_reducible first | refine BdS (fun Kv hN hX hR => ?_) | refine Stop.mk ?_ | refine Join.mk ⟨fun Kv hN hX hR => ?_, ?_⟩ | refine DrawJ.each ?_ | exact SubJ.self _) | with_reducible refine SubJ.of ?_ | (with_reducible first | refine FlS (fun Kf hF => ?_) | refine FlN ?_ | refine NdS (fun Kg hG => ?_) | (refine hF _ _ ?_; clear hF; clear Kf) | (refine hG _ _ _ _ ?_; clear hG; clear Kg))))); all_goals (conv => whnf); all_goals (repeat ((try (clear hG; clear Kg)); clear hN hX hR; clear Kv))
  all_goals first
    | (have h := of_decide_eq_false (nf (by with_reducible assumption))
       exact (decide_eq_false (fun e => h (by rw [e]))).symm)
    | (refine ⟨0, ⟨by omega, by intros; omega⟩, ?_⟩
       (repeat' (first | ((with_reducible refine BdI ?_); (first | ((with_reducible refine SqI ?_ (fun Kv hN hX hR => ?_)); (next => exact rfl)) | ((with_reducible refine JnI ?_ ?_); (next => exact rfl)) | (conv => whnf))) | (with_reducible first | refine BdS (fun Kv hN hX hR => ?_) | refine Stop.mk ?_ | refine Join.mk ⟨fun Kv hN hX hR => ?_, ?_⟩ | refine DrawJ.each ?_ | exact SubJ.self _) | with_reducible refine SubJ.of ?_ | (with_reducible first | refine FlS (fun Kf hF => ?_) | refine FlN ?_ | refine NdS (fun Kg hG => ?_) | (refine hF _ _ ?_; clear hF; clear Kf) | (refine hG _ _ _ _ ?_; clear hG; clear Kg)) | ((with_reducible refine SqI ?_ (fun Kv hN hX hR => ?_)); (next => exact rfl)) | ((with_reducible refine JnI ?_ ?_); (next => exact rfl)) | ((with_reducible first | refine hN _ ?_ | refine hX _ _ ?_ | refine hR _ ?_); (try (clear hG; clear Kg)); clear hN hX hR; clear Kv) | ((conv => whnf); first | (with_reducible first | rfl | exact True.intro | intro _ | refine And.intro ?_ ?_) | ((with_reducible first | refine hN _ ?_ | refine hX _ _ ?_ | refine hR _ ?_); (try (clear hG; clear Kg)); clear hN hX hR; clear Kv) | (with_reducible first | refine BdS (fun Kv hN hX hR => ?_) | refine Stop.mk ?_ | refine Join.mk ⟨fun Kv hN hX hR => ?_, ?_⟩ | refine DrawJ.each ?_ | exact SubJ.self _) | with_reducible refine SubJ.of ?_ | (with_reducible first | refine FlS (fun Kf hF => ?_) | refine FlN ?_ | refine NdS (fun Kg hG => ?_) | (refine hF _ _ ?_; clear hF; clear Kf) | (refine hG _ _ _ _ ?_; clear hG; clear Kg))))); all_goals (conv => whnf); all_goals (repeat ((try (clear hG; clear Kg)); clear hN hX hR; clear Kv))
       all_goals rfl)
    | (with_reducible intro i hi
       have hl : (xs.length : Int) = ys.length := of_decide_eq_true (nt (by with_reducible assumption))
       (repeat' (first | ((with_reducible refine BdI ?_); (first | ((with_reducible refine SqI ?_ (fun Kv hN hX hR => ?_)); (next => exact rfl)) | ((with_reducible refine JnI ?_ ?_); (next => exact rfl)) | (conv => whnf))) | (with_reducible first | refine BdS (fun Kv hN hX hR => ?_) | refine Stop.mk ?_ | refine Join.mk ⟨fun Kv hN hX hR => ?_, ?_⟩ | refine DrawJ.each ?_ | exact SubJ.self _) | with_reducible refine SubJ.of ?_ | (with_reducible first | refine FlS (fun Kf hF => ?_) | refine FlN ?_ | refine NdS (fun Kg hG => ?_) | (refine hF _ _ ?_; clear hF; clear Kf) | (refine hG _ _ _ _ ?_; clear hG; clear Kg)) | ((with_reducible refine SqI ?_ (fun Kv hN hX hR => ?_)); (next => exact rfl)) | ((with_reducible refine JnI ?_ ?_); (next => exact rfl)) | ((with_reducible first | refine hN _ ?_ | refine hX _ _ ?_ | refine hR _ ?_); (try (clear hG; clear Kg)); clear hN hX hR; clear Kv) | ((conv => whnf); first | (with_reducible first | rfl | exact True.intro | intro _ | refine And.intro ?_ ?_) | ((with_reducible first | refine hN _ ?_ | refine hX _ _ ?_ | refine hR _ ?_); (try (clear hG; clear Kg)); clear hN hX hR; clear Kv) | (with_reducible first | refine BdS (fun Kv hN hX hR => ?_) | refine Stop.mk ?_ | refine Join.mk ⟨fun Kv hN hX hR => ?_, ?_⟩ | refine DrawJ.each ?_ | exact SubJ.self _) | with_reducible refine SubJ.of ?_ | (with_reducible first | refine FlS (fun Kf hF => ?_) | refine FlN ?_ | refine NdS (fun Kg hG => ?_) | (refine hF _ _ ?_; clear hF; clear Kf) | (refine hG _ _ _ _ ?_; clear hG; clear Kg))))); all_goals (conv => whnf); all_goals (repeat ((try (clear hG; clear Kg)); clear hN hX hR; clear Kv))
       all_goals (try simp only [Int.toNat_natCast] at *)
       all_goals first
         | (have h := of_decide_eq_true (show decide ((i : Int) < (xs.length : Nat)) = true by with_reducible assumption)
            exact Ob.mk ⟨by omega, by omega⟩)
         | (have h := of_decide_eq_true (show decide ((i : Int) < (xs.length : Nat)) = true by with_reducible assumption)
            have h3 : ¬ (xs.getD i default = ys.getD i default) := by
              intro e
              simp_all
              done
            exact (decide_eq_false (fun e => h3 (by rw [e]))).symm)
         | (have h := of_decide_eq_true (show decide ((i : Int) < (xs.length : Nat)) = true by with_reducible assumption)
            have h3 : xs.getD i default = ys.getD i default := by
              simp only [Bool.not_eq_false', Bool.and_eq_true, decide_eq_true_eq] at *
              first
                | assumption
                | (rename_i h4; cases hx : xs.getD i default; cases hy : ys.getD i default; simp_all)
            refine ⟨i + 1, ⟨by omega, fun j hj => ?_⟩, by show xs.length - (i + 1) < xs.length - i; omega, ?_⟩
            · rcases Nat.lt_succ_iff_lt_or_eq.1 hj with h4 | h4
              · exact hi.2 j h4
              · subst h4; exact h3
            · (repeat' (first | ((with_reducible refine BdI ?_); (first | ((with_reducible refine SqI ?_ (fun Kv hN hX hR => ?_)); (next => exact rfl)) | ((with_reducible refine JnI ?_ ?_); (next => exact rfl)) | (conv => whnf))) | (with_reducible first | refine BdS (fun Kv hN hX hR => ?_) | refine Stop.mk ?_ | refine Join.mk ⟨fun Kv hN hX hR => ?_, ?_⟩ | refine DrawJ.each ?_ | exact SubJ.self _) | with_reducible refine SubJ.of ?_ | (with_reducible first | refine FlS (fun Kf hF => ?_) | refine FlN ?_ | refine NdS (fun Kg hG => ?_) | (refine hF _ _ ?_; clear hF; clear Kf) | (refine hG _ _ _ _ ?_; clear hG; clear Kg)) | ((with_reducible refine SqI ?_ (fun Kv hN hX hR => ?_)); (next => exact rfl)) | ((with_reducible refine JnI ?_ ?_); (next => exact rfl)) | ((with_reducible first | refine hN _ ?_ | refine hX _ _ ?_ | refine hR _ ?_); (try (clear hG; clear Kg)); clear hN hX hR; clear Kv) | ((conv => whnf); first | (with_reducible first | rfl | exact True.intro | intro _ | refine And.intro ?_ ?_) | ((with_reducible first | refine hN _ ?_ | refine hX _ _ ?_ | refine hR _ ?_); (try (clear hG; clear Kg)); clear hN hX hR; clear Kv) | (with_reducible first | refine BdS (fun Kv hN hX hR => ?_) | refine Stop.mk ?_ | refine Join.mk ⟨fun Kv hN hX hR => ?_, ?_⟩ | refine DrawJ.each ?_ | exact SubJ.self _) | with_reducible refine SubJ.of ?_ | (with_reducible first | refine FlS (fun Kf hF => ?_) | refine FlN ?_ | refine NdS (fun Kg hG => ?_) | (refine hF _ _ ?_; clear hF; clear Kf) | (refine hG _ _ _ _ ?_; clear hG; clear Kg))))); all_goals (conv => whnf); all_goals (repeat ((try (clear hG; clear Kg)); clear hN hX hR; clear Kv))
              all_goals first
                | exact wrapI (by omega) (by omega)
                | rfl)
         | (have h := of_decide_eq_false (show decide ((i : Int) < (xs.length : Nat)) = false by with_reducible assumption)
            exact (decide_eq_true (eq_of_take (d := default) (by omega) fun j hj => hi.2 j (by omega))).symm)
         | trace_state)
    | trace_state
end Go.Proofs.YtmhieddhmebfhaaGreat

/- Contracts: the laws' comparisons: Items. -/
namespace Go.Proofs.YtmhieddhmebfhaaGreat
open Go.RowKit
set_option maxRecDepth 20000

theorem k_SameItems : Known Tryz.prog tau 43 (S2 dItems dItems fun a b => okB (decide (a = b))) := by
  refine known2 hmix tau_ok ctx_nil (fn := Tryz.f43) (by kernel_rfl) [(6, [(0, 0), (1, 0), (2, 3), (3, 4), (4, 0), (5, 0), (6, 48), (7, 64), (8, 136)])] (by kernel_rfl) _ _ _ fun xs ys hfit => ⟨rfl,
    [(4, invN [4, 5, 11, 12, 13, 14, 15, 16, 17, 18, 19, 20, 21, 22, 23, 24, 25] (fun i => i ≤ xs.length ∧ ∀ j, j < i → xs.getD j default = ys.getD j default) (fun i => withS [(5, .int .i64 i)]) (fun i => xs.length - i))], ?_⟩
  have hlen : xs.length * 40 ≤ 140737488355328 := hfit.1
  clear hfit
  (repeat' (first | ((with_reducible refine BdI ?_); (first | ((with_reducible refine SqI ?_ (fun Kv hN hX hR => ?_)); (next => exact rfl)) | ((with_reducible refine JnI ?_ ?_); (next => exact rfl)) | (conv => whnf))) | (with_reducible first | refine BdS (fun Kv hN hX hR => ?_) | refine Stop.mk ?_ | refine Join.mk ⟨fun Kv hN hX hR => ?_, ?_⟩ | refine DrawJ.each ?_ | exact SubJ.self _) | with_reducible refine SubJ.of ?_ | (with_reducible first | refine FlS (fun Kf hF => ?_) | refine FlN ?_ | refine NdS (fun Kg hG => ?_) | (refine hF _ _ ?_; clear hF; clear Kf) | (refine hG _ _ _ _ ?_; clear hG; clear Kg)) | ((with_reducible refine SqI ?_ (fun Kv hN hX hR => ?_)); (next => exact rfl)) | ((with_reducible refine JnI ?_ ?_); (next => exact rfl)) | ((with_reducible first | refine hN _ ?_ | refine hX _ _ ?_ | refine hR _ ?_); (try (clear hG; clear Kg)); clear hN hX hR; clear Kv) | ((conv => whnf); first | (with_reducible first | rfl | exact True.intro | refine (fun (_ : (_ : Prop)) => ?_) | refine And.intro ?_ ?_) | ((with_reducible first | refine hN _ ?_ | refine hX _ _ ?_ | refine hR _ ?_); (try (clear hG; clear Kg)); clear hN hX hR; clear Kv) | (with_reducible first | refine BdS (fun Kv hN hX hR => ?_) | refine Stop.mk ?_ | refine Join.mk ⟨fun Kv hN hX hR => ?_, ?_⟩ | refine DrawJ.each ?_ | exact SubJ.self _) | with_reducible refine SubJ.of ?_ | (with_reducible first | refine FlS (fun Kf hF => ?_) | refine FlN ?_ | refine NdS (fun Kg hG => ?_) | (refine hF _ _ ?_; clear hF; clear Kf) | (refine hG _ _ _ _ ?_; clear hG; clear Kg))))); all_goals (conv => whnf); all_goals (repeat ((try (clear hG; clear Kg)); clear hN hX hR; clear Kv))
  all_goals first
    | (have h := of_decide_eq_false (nf (by with_reducible assumption))
       exact (decide_eq_false (fun e => h (by rw [e]))).symm)
    | (refine ⟨0, ⟨by omega, by intros; omega⟩, ?_⟩
       (repeat' (first | ((with_reducible refine BdI ?_); (first | ((with_reducible refine SqI ?_ (fun Kv hN hX hR => ?_)); (next => exact rfl)) | ((with_reducible refine JnI ?_ ?_); (next => exact rfl)) | (conv => whnf))) | (with_reducible first | refine BdS (fun Kv hN hX hR => ?_) | refine Stop.mk ?_ | refine Join.mk ⟨fun Kv hN hX hR => ?_, ?_⟩ | refine DrawJ.each ?_ | exact SubJ.self _) | with_reducible refine SubJ.of ?_ | (with_reducible first | refine FlS (fun Kf hF => ?_) | refine FlN ?_ | refine NdS (fun Kg hG => ?_) | (refine hF _ _ ?_; clear hF; clear Kf) | (refine hG _ _ _ _ ?_; clear hG; clear Kg)) | ((with_reducible refine SqI ?_ (fun Kv hN hX hR => ?_)); (next => exact rfl)) | ((with_reducible refine JnI ?_ ?_); (next => exact rfl)) | ((with_reducible first | refine hN _ ?_ | refine hX _ _ ?_ | refine hR _ ?_); (try (clear hG; clear Kg)); clear hN hX hR; clear Kv) | ((conv => whnf); first | (with_reducible first | rfl | exact True.intro | intro _ | refine And.intro ?_ ?_) | ((with_reducible first | refine hN _ ?_ | refine hX _ _ ?_ | refine hR _ ?_); (try (clear hG; clear Kg)); clear hN hX hR; clear Kv) | (with_reducible first | refine BdS (fun Kv hN hX hR => ?_) | refine Stop.mk ?_ | refine Join.mk ⟨fun Kv hN hX hR => ?_, ?_⟩ | refine DrawJ.each ?_ | exact SubJ.self _) | with_reducible refine SubJ.of ?_ | (with_reducible first | refine FlS (fun Kf hF => ?_) | refine FlN ?_ | refine NdS (fun Kg hG => ?_) | (refine hF _ _ ?_; clear hF; clear Kf) | (refine hG _ _ _ _ ?_; clear hG; clear Kg))))); all_goals (conv => whnf); all_goals (repeat ((try (clear hG; clear Kg)); clear hN hX hR; clear Kv))
       all_goals rfl)
    | (with_reducible intro i hi
       have hl : (xs.length : Int) = ys.length := of_decide_eq_true (nt (by with_reducible assumption))
       (repeat' (first | ((with_reducible refine BdI ?_); (first | ((with_reducible refine SqI ?_ (fun Kv hN hX hR => ?_)); (next => exact rfl)) | ((with_reducible refine JnI ?_ ?_); (next => exact rfl)) | (conv => whnf))) | (with_reducible first | refine BdS (fun Kv hN hX hR => ?_) | refine Stop.mk ?_ | refine Join.mk ⟨fun Kv hN hX hR => ?_, ?_⟩ | refine DrawJ.each ?_ | exact SubJ.self _) | with_reducible refine SubJ.of ?_ | (with_reducible first | refine FlS (fun Kf hF => ?_) | refine FlN ?_ | refine NdS (fun Kg hG => ?_) | (refine hF _ _ ?_; clear hF; clear Kf) | (refine hG _ _ _ _ ?_; clear hG; clear Kg)) | ((with_reducible refine SqI ?_ (fun Kv hN hX hR => ?_)); (next => exact rfl)) | ((with_reducible refine JnI ?_ ?_); (next => exact rfl)) | ((with_reducible first | refine hN _ ?_ | refine hX _ _ ?_ | refine hR _ ?_); (try (clear hG; clear Kg)); clear hN hX hR; clear Kv) | ((conv => whnf); first | (with_reducible first | rfl | exact True.intro | intro _ | refine And.intro ?_ ?_) | ((with_reducible first | refine hN _ ?_ | refine hX _ _ ?_ | refine hR _ ?_); (try (clear hG; clear Kg)); clear hN hX hR; clear Kv) | (with_reducible first | refine BdS (fun Kv hN hX hR => ?_) | refine Stop.mk ?_ | refine Join.mk ⟨fun Kv hN hX hR => ?_, ?_⟩ | refine DrawJ.each ?_ | exact SubJ.self _) | with_reducible refine SubJ.of ?_ | (with_reducible first | refine FlS (fun Kf hF => ?_) | refine FlN ?_ | refine NdS (fun Kg hG => ?_) | (refine hF _ _ ?_; clear hF; clear Kf) | (refine hG _ _ _ _ ?_; clear hG; clear Kg))))); all_goals (conv => whnf); all_goals (repeat ((try (clear hG; clear Kg)); clear hN hX hR; clear Kv))
       all_goals (try simp only [Int.toNat_natCast] at *)
       all_goals first
         | (have h := of_decide_eq_true (show decide ((i : Int) < (xs.length : Nat)) = true by with_reducible assumption)
            exact Ob.mk ⟨by omega, by omega⟩)
         | (have h := of_decide_eq_true (show decide ((i : Int) < (xs.length : Nat)) = true by with_reducible assumption)
            have h3 : ¬ (xs.getD i default = ys.getD i default) := by
              intro e
              simp_all
              done
            exact (decide_eq_false (fun e => h3 (by rw [e]))).symm)
         | (have h := of_decide_eq_true (show decide ((i : Int) < (xs.length : Nat)) = true by with_reducible assumption)
            have h3 : xs.getD i default = ys.getD i default := by
              have key : ∀ p q : GItem, (!(decide (p.key = q.key) && (decide (p.ver.count = q.ver.count) && (decide (p.ver.writer = q.ver.writer) && (decide (p.value = q.value) && p.gone == q.gone))))) = false → p = q := by
                rintro ⟨_, ⟨_, _⟩, _, _⟩ ⟨_, ⟨_, _⟩, _, _⟩ h
                simp_all
              exact key _ _ (by with_reducible assumption)
            refine ⟨i + 1, ⟨by omega, fun j hj => ?_⟩, by show xs.length - (i + 1) < xs.length - i; omega, ?_⟩
            · rcases Nat.lt_succ_iff_lt_or_eq.1 hj with h4 | h4
              · exact hi.2 j h4
              · subst h4; exact h3
            · (repeat' (first | ((with_reducible refine BdI ?_); (first | ((with_reducible refine SqI ?_ (fun Kv hN hX hR => ?_)); (next => exact rfl)) | ((with_reducible refine JnI ?_ ?_); (next => exact rfl)) | (conv => whnf))) | (with_reducible first | refine BdS (fun Kv hN hX hR => ?_) | refine Stop.mk ?_ | refine Join.mk ⟨fun Kv hN hX hR => ?_, ?_⟩ | refine DrawJ.each ?_ | exact SubJ.self _) | with_reducible refine SubJ.of ?_ | (with_reducible first | refine FlS (fun Kf hF => ?_) | refine FlN ?_ | refine NdS (fun Kg hG => ?_) | (refine hF _ _ ?_; clear hF; clear Kf) | (refine hG _ _ _ _ ?_; clear hG; clear Kg)) | ((with_reducible refine SqI ?_ (fun Kv hN hX hR => ?_)); (next => exact rfl)) | ((with_reducible refine JnI ?_ ?_); (next => exact rfl)) | ((with_reducible first | refine hN _ ?_ | refine hX _ _ ?_ | refine hR _ ?_); (try (clear hG; clear Kg)); clear hN hX hR; clear Kv) | ((conv => whnf); first | (with_reducible first | rfl | exact True.intro | intro _ | refine And.intro ?_ ?_) | ((with_reducible first | refine hN _ ?_ | refine hX _ _ ?_ | refine hR _ ?_); (try (clear hG; clear Kg)); clear hN hX hR; clear Kv) | (with_reducible first | refine BdS (fun Kv hN hX hR => ?_) | refine Stop.mk ?_ | refine Join.mk ⟨fun Kv hN hX hR => ?_, ?_⟩ | refine DrawJ.each ?_ | exact SubJ.self _) | with_reducible refine SubJ.of ?_ | (with_reducible first | refine FlS (fun Kf hF => ?_) | refine FlN ?_ | refine NdS (fun Kg hG => ?_) | (refine hF _ _ ?_; clear hF; clear Kf) | (refine hG _ _ _ _ ?_; clear hG; clear Kg))))); all_goals (conv => whnf); all_goals (repeat ((try (clear hG; clear Kg)); clear hN hX hR; clear Kv))
              all_goals first
                | exact wrapI (by omega) (by omega)
                | rfl)
         | (have h := of_decide_eq_false (show decide ((i : Int) < (xs.length : Nat)) = false by with_reducible assumption)
            exact (decide_eq_true (eq_of_take (d := default) (by omega) fun j hj => hi.2 j (by omega))).symm)
         | trace_state)
    | trace_state
end Go.Proofs.YtmhieddhmebfhaaGreat

/- Contracts: the laws' comparisons: Tolds. -/
namespace Go.Proofs.YtmhieddhmebfhaaGreat
open Go.RowKit
set_option maxRecDepth 20000

theorem k_SameTolds : Known Tryz.prog tau 44 (S2 dTolds dTolds fun a b => okB (decide (a = b))) := by
  refine known2 hmix tau_ok ctx_nil (fn := Tryz.f44) (by kernel_rfl) [(6, [(0, 0), (1, 0), (2, 3), (3, 4), (4, 0), (5, 0), (6, 48), (7, 64), (8, 136)])] (by kernel_rfl) _ _ _ fun xs ys hfit => ⟨rfl,
    [(4, invN [4, 5, 11, 12, 13, 14, 15, 16, 17, 18, 19, 20, 21, 22, 23, 24, 25] (fun i => i ≤ xs.length ∧ ∀ j, j < i → xs.getD j default = ys.getD j default) (fun i => withS [(5, .int .i64 i)]) (fun i => xs.length - i))], ?_⟩
  have hlen : xs.length * 24 ≤ 140737488355328 := hfit.1
  clear hfit
  (repeat' (first | ((with_reducible refine BdI ?_); (first | ((with_reducible refine SqI ?_ (fun Kv hN hX hR => ?_)); (next => exact rfl)) | ((with_reducible refine JnI ?_ ?_); (next => exact rfl)) | (conv => whnf))) | (with_reducible first | refine BdS (fun Kv hN hX hR => ?_) | refine Stop.mk ?_ | refine Join.mk ⟨fun Kv hN hX hR => ?_, ?_⟩ | refine DrawJ.each ?_ | exact SubJ.self _) | with_reducible refine SubJ.of ?_ | (with_reducible first | refine FlS (fun Kf hF => ?_) | refine FlN ?_ | refine NdS (fun Kg hG => ?_) | (refine hF _ _ ?_; clear hF; clear Kf) | (refine hG _ _ _ _ ?_; clear hG; clear Kg)) | ((with_reducible refine SqI ?_ (fun Kv hN hX hR => ?_)); (next => exact rfl)) | ((with_reducible refine JnI ?_ ?_); (next => exact rfl)) | ((with_reducible first | refine hN _ ?_ | refine hX _ _ ?_ | refine hR _ ?_); (try (clear hG; clear Kg)); clear hN hX hR; clear Kv) | ((conv => whnf); first | (with_reducible first | rfl | exact True.intro | refine (fun (_ : (_ : Prop)) => ?_) | refine And.intro ?_ ?_) | ((with_reducible first | refine hN _ ?_ | refine hX _ _ ?_ | refine hR _ ?_); (try (clear hG; clear Kg)); clear hN hX hR; clear Kv) | (with_reducible first | refine BdS (fun Kv hN hX hR => ?_) | refine Stop.mk ?_ | refine Join.mk ⟨fun Kv hN hX hR => ?_, ?_⟩ | refine DrawJ.each ?_ | exact SubJ.self _) | with_reducible refine SubJ.of ?_ | (with_reducible first | refine FlS (fun Kf hF => ?_) | refine FlN ?_ | refine NdS (fun Kg hG => ?_) | (refine hF _ _ ?_; clear hF; clear Kf) | (refine hG _ _ _ _ ?_; clear hG; clear Kg))))); all_goals (conv => whnf); all_goals (repeat ((try (clear hG; clear Kg)); clear hN hX hR; clear Kv))
  all_goals first
    | (have h := of_decide_eq_false (nf (by with_reducible assumption))
       exact (decide_eq_false (fun e => h (by rw [e]))).symm)
    | (refine ⟨0, ⟨by omega, by intros; omega⟩, ?_⟩
       (repeat' (first | ((with_reducible refine BdI ?_); (first | ((with_reducible refine SqI ?_ (fun Kv hN hX hR => ?_)); (next => exact rfl)) | ((with_reducible refine JnI ?_ ?_); (next => exact rfl)) | (conv => whnf))) | (with_reducible first | refine BdS (fun Kv hN hX hR => ?_) | refine Stop.mk ?_ | refine Join.mk ⟨fun Kv hN hX hR => ?_, ?_⟩ | refine DrawJ.each ?_ | exact SubJ.self _) | with_reducible refine SubJ.of ?_ | (with_reducible first | refine FlS (fun Kf hF => ?_) | refine FlN ?_ | refine NdS (fun Kg hG => ?_) | (refine hF _ _ ?_; clear hF; clear Kf) | (refine hG _ _ _ _ ?_; clear hG; clear Kg)) | ((with_reducible refine SqI ?_ (fun Kv hN hX hR => ?_)); (next => exact rfl)) | ((with_reducible refine JnI ?_ ?_); (next => exact rfl)) | ((with_reducible first | refine hN _ ?_ | refine hX _ _ ?_ | refine hR _ ?_); (try (clear hG; clear Kg)); clear hN hX hR; clear Kv) | ((conv => whnf); first | (with_reducible first | rfl | exact True.intro | intro _ | refine And.intro ?_ ?_) | ((with_reducible first | refine hN _ ?_ | refine hX _ _ ?_ | refine hR _ ?_); (try (clear hG; clear Kg)); clear hN hX hR; clear Kv) | (with_reducible first | refine BdS (fun Kv hN hX hR => ?_) | refine Stop.mk ?_ | refine Join.mk ⟨fun Kv hN hX hR => ?_, ?_⟩ | refine DrawJ.each ?_ | exact SubJ.self _) | with_reducible refine SubJ.of ?_ | (with_reducible first | refine FlS (fun Kf hF => ?_) | refine FlN ?_ | refine NdS (fun Kg hG => ?_) | (refine hF _ _ ?_; clear hF; clear Kf) | (refine hG _ _ _ _ ?_; clear hG; clear Kg))))); all_goals (conv => whnf); all_goals (repeat ((try (clear hG; clear Kg)); clear hN hX hR; clear Kv))
       all_goals rfl)
    | (with_reducible intro i hi
       have hl : (xs.length : Int) = ys.length := of_decide_eq_true (nt (by with_reducible assumption))
       (repeat' (first | ((with_reducible refine BdI ?_); (first | ((with_reducible refine SqI ?_ (fun Kv hN hX hR => ?_)); (next => exact rfl)) | ((with_reducible refine JnI ?_ ?_); (next => exact rfl)) | (conv => whnf))) | (with_reducible first | refine BdS (fun Kv hN hX hR => ?_) | refine Stop.mk ?_ | refine Join.mk ⟨fun Kv hN hX hR => ?_, ?_⟩ | refine DrawJ.each ?_ | exact SubJ.self _) | with_reducible refine SubJ.of ?_ | (with_reducible first | refine FlS (fun Kf hF => ?_) | refine FlN ?_ | refine NdS (fun Kg hG => ?_) | (refine hF _ _ ?_; clear hF; clear Kf) | (refine hG _ _ _ _ ?_; clear hG; clear Kg)) | ((with_reducible refine SqI ?_ (fun Kv hN hX hR => ?_)); (next => exact rfl)) | ((with_reducible refine JnI ?_ ?_); (next => exact rfl)) | ((with_reducible first | refine hN _ ?_ | refine hX _ _ ?_ | refine hR _ ?_); (try (clear hG; clear Kg)); clear hN hX hR; clear Kv) | ((conv => whnf); first | (with_reducible first | rfl | exact True.intro | intro _ | refine And.intro ?_ ?_) | ((with_reducible first | refine hN _ ?_ | refine hX _ _ ?_ | refine hR _ ?_); (try (clear hG; clear Kg)); clear hN hX hR; clear Kv) | (with_reducible first | refine BdS (fun Kv hN hX hR => ?_) | refine Stop.mk ?_ | refine Join.mk ⟨fun Kv hN hX hR => ?_, ?_⟩ | refine DrawJ.each ?_ | exact SubJ.self _) | with_reducible refine SubJ.of ?_ | (with_reducible first | refine FlS (fun Kf hF => ?_) | refine FlN ?_ | refine NdS (fun Kg hG => ?_) | (refine hF _ _ ?_; clear hF; clear Kf) | (refine hG _ _ _ _ ?_; clear hG; clear Kg))))); all_goals (conv => whnf); all_goals (repeat ((try (clear hG; clear Kg)); clear hN hX hR; clear Kv))
       all_goals (try simp only [Int.toNat_natCast] at *)
       all_goals first
         | (have h := of_decide_eq_true (show decide ((i : Int) < (xs.length : Nat)) = true by with_reducible assumption)
            exact Ob.mk ⟨by omega, by omega⟩)
         | (have h := of_decide_eq_true (show decide ((i : Int) < (xs.length : Nat)) = true by with_reducible assumption)
            have h3 : ¬ (xs.getD i default = ys.getD i default) := by
              intro e
              simp_all
              done
            exact (decide_eq_false (fun e => h3 (by rw [e]))).symm)
         | (have h := of_decide_eq_true (show decide ((i : Int) < (xs.length : Nat)) = true by with_reducible assumption)
            have h3 : xs.getD i default = ys.getD i default := by
              simp only [Bool.not_eq_false', Bool.and_eq_true, decide_eq_true_eq] at *
              first
                | assumption
                | (rename_i h4; cases hx : xs.getD i default; cases hy : ys.getD i default; simp_all)
            refine ⟨i + 1, ⟨by omega, fun j hj => ?_⟩, by show xs.length - (i + 1) < xs.length - i; omega, ?_⟩
            · rcases Nat.lt_succ_iff_lt_or_eq.1 hj with h4 | h4
              · exact hi.2 j h4
              · subst h4; exact h3
            · (repeat' (first | ((with_reducible refine BdI ?_); (first | ((with_reducible refine SqI ?_ (fun Kv hN hX hR => ?_)); (next => exact rfl)) | ((with_reducible refine JnI ?_ ?_); (next => exact rfl)) | (conv => whnf))) | (with_reducible first | refine BdS (fun Kv hN hX hR => ?_) | refine Stop.mk ?_ | refine Join.mk ⟨fun Kv hN hX hR => ?_, ?_⟩ | refine DrawJ.each ?_ | exact SubJ.self _) | with_reducible refine SubJ.of ?_ | (with_reducible first | refine FlS (fun Kf hF => ?_) | refine FlN ?_ | refine NdS (fun Kg hG => ?_) | (refine hF _ _ ?_; clear hF; clear Kf) | (refine hG _ _ _ _ ?_; clear hG; clear Kg)) | ((with_reducible refine SqI ?_ (fun Kv hN hX hR => ?_)); (next => exact rfl)) | ((with_reducible refine JnI ?_ ?_); (next => exact rfl)) | ((with_reducible first | refine hN _ ?_ | refine hX _ _ ?_ | refine hR _ ?_); (try (clear hG; clear Kg)); clear hN hX hR; clear Kv) | ((conv => whnf); first | (with_reducible first | rfl | exact True.intro | intro _ | refine And.intro ?_ ?_) | ((with_reducible first | refine hN _ ?_ | refine hX _ _ ?_ | refine hR _ ?_); (try (clear hG; clear Kg)); clear hN hX hR; clear Kv) | (with_reducible first | refine BdS (fun Kv hN hX hR => ?_) | refine Stop.mk ?_ | refine Join.mk ⟨fun Kv hN hX hR => ?_, ?_⟩ | refine DrawJ.each ?_ | exact SubJ.self _) | with_reducible refine SubJ.of ?_ | (with_reducible first | refine FlS (fun Kf hF => ?_) | refine FlN ?_ | refine NdS (fun Kg hG => ?_) | (refine hF _ _ ?_; clear hF; clear Kf) | (refine hG _ _ _ _ ?_; clear hG; clear Kg))))); all_goals (conv => whnf); all_goals (repeat ((try (clear hG; clear Kg)); clear hN hX hR; clear Kv))
              all_goals first
                | exact wrapI (by omega) (by omega)
                | rfl)
         | (have h := of_decide_eq_false (show decide ((i : Int) < (xs.length : Nat)) = false by with_reducible assumption)
            exact (decide_eq_true (eq_of_take (d := default) (by omega) fun j hj => hi.2 j (by omega))).symm)
         | trace_state)
    | trace_state
end Go.Proofs.YtmhieddhmebfhaaGreat

/- Chapter 16: the laws' functions. -/
namespace Go.Proofs.YtmhieddhmebfhaaGreat
open Go.RowKit
set_option maxRecDepth 20000

theorem k_SameView : Known Tryz.prog tau 42 (S2 dView dView fun a b => okB (decide (a = b))) := by
  refine known2 hmix tau_ok (ctx_cons k_SamePeers (ctx_cons k_SameInts ctx_nil)) (fn := Tryz.f42) (by kernel_rfl) [] (by kernel_rfl) _ _ _ fun a b hfit => ⟨rfl, [], ?_⟩
  clear hfit
  (repeat' (first | ((with_reducible refine BdI ?_); (first | ((with_reducible refine SqI ?_ (fun Kv hN hX hR => ?_)); (next => exact rfl)) | ((with_reducible refine JnI ?_ ?_); (next => exact rfl)) | (conv => whnf))) | (with_reducible first | refine BdS (fun Kv hN hX hR => ?_) | refine Stop.mk ?_ | refine Join.mk ⟨fun Kv hN hX hR => ?_, ?_⟩ | refine DrawJ.each ?_ | exact SubJ.self _) | with_reducible refine SubJ.of ?_ | (with_reducible first | refine FlS (fun Kf hF => ?_) | refine FlN ?_ | refine NdS (fun Kg hG => ?_) | (refine hF _ _ ?_; clear hF; clear Kf) | (refine hG _ _ _ _ ?_; clear hG; clear Kg)) | ((with_reducible refine SqI ?_ (fun Kv hN hX hR => ?_)); (next => exact rfl)) | ((with_reducible refine JnI ?_ ?_); (next => exact rfl)) | ((with_reducible first | refine hN _ ?_ | refine hX _ _ ?_ | refine hR _ ?_); (try (clear hG; clear Kg)); clear hN hX hR; clear Kv) | ((conv => whnf); first | (with_reducible first | rfl | exact True.intro | intro _ | refine And.intro ?_ ?_) | ((with_reducible first | refine hN _ ?_ | refine hX _ _ ?_ | refine hR _ ?_); (try (clear hG; clear Kg)); clear hN hX hR; clear Kv) | (with_reducible first | refine BdS (fun Kv hN hX hR => ?_) | refine Stop.mk ?_ | refine Join.mk ⟨fun Kv hN hX hR => ?_, ?_⟩ | refine DrawJ.each ?_ | exact SubJ.self _) | with_reducible refine SubJ.of ?_ | (with_reducible first | refine FlS (fun Kf hF => ?_) | refine FlN ?_ | refine NdS (fun Kg hG => ?_) | (refine hF _ _ ?_; clear hF; clear Kf) | (refine hG _ _ _ _ ?_; clear hG; clear Kg))))); all_goals (conv => whnf); all_goals (repeat ((try (clear hG; clear Kg)); clear hN hX hR; clear Kv))
  all_goals (cases a; cases b; simp_all)
theorem k_SameNode : Known Tryz.prog tau 10 (S2 dNode dNode fun a b => okB (decide (a = b))) := by
  refine known2 hmix tau_ok (ctx_cons k_SameView (ctx_cons k_SameItems (ctx_cons k_SameTolds ctx_nil))) (fn := Tryz.f10) (by kernel_rfl) [] (by kernel_rfl) _ _ _ fun a b hfit => ⟨rfl, [], ?_⟩
  clear hfit
  (repeat' (first | ((with_reducible refine BdI ?_); (first | ((with_reducible refine SqI ?_ (fun Kv hN hX hR => ?_)); (next => exact rfl)) | ((with_reducible refine JnI ?_ ?_); (next => exact rfl)) | (conv => whnf))) | (with_reducible first | refine BdS (fun Kv hN hX hR => ?_) | refine Stop.mk ?_ | refine Join.mk ⟨fun Kv hN hX hR => ?_, ?_⟩ | refine DrawJ.each ?_ | exact SubJ.self _) | with_reducible refine SubJ.of ?_ | (with_reducible first | refine FlS (fun Kf hF => ?_) | refine FlN ?_ | refine NdS (fun Kg hG => ?_) | (refine hF _ _ ?_; clear hF; clear Kf) | (refine hG _ _ _ _ ?_; clear hG; clear Kg)) | ((with_reducible refine SqI ?_ (fun Kv hN hX hR => ?_)); (next => exact rfl)) | ((with_reducible refine JnI ?_ ?_); (next => exact rfl)) | ((with_reducible first | refine hN _ ?_ | refine hX _ _ ?_ | refine hR _ ?_); (try (clear hG; clear Kg)); clear hN hX hR; clear Kv) | ((conv => whnf); first | (with_reducible first | rfl | exact True.intro | intro _ | refine And.intro ?_ ?_) | ((with_reducible first | refine hN _ ?_ | refine hX _ _ ?_ | refine hR _ ?_); (try (clear hG; clear Kg)); clear hN hX hR; clear Kv) | (with_reducible first | refine BdS (fun Kv hN hX hR => ?_) | refine Stop.mk ?_ | refine Join.mk ⟨fun Kv hN hX hR => ?_, ?_⟩ | refine DrawJ.each ?_ | exact SubJ.self _) | with_reducible refine SubJ.of ?_ | (with_reducible first | refine FlS (fun Kf hF => ?_) | refine FlN ?_ | refine NdS (fun Kg hG => ?_) | (refine hF _ _ ?_; clear hF; clear Kf) | (refine hG _ _ _ _ ?_; clear hG; clear Kg))))); all_goals (conv => whnf); all_goals (repeat ((try (clear hG; clear Kg)); clear hN hX hR; clear Kv))
  all_goals (rcases a with ⟨a1, ⟨a2, a3, a4⟩, a5, a6⟩; rcases b with ⟨b1, ⟨b2, b3, b4⟩, b5, b6⟩; simp_all)
end Go.Proofs.YtmhieddhmebfhaaGreat

/- Chapter 11: awake; a view that hears nobody. -/
namespace Go.Proofs.YtmhieddhmebfhaaGreat
open Go.RowKit
/-- The same, to be reckoned. -/
def withC11 (l : List Int) (x : Int) : List Int × Int := if passB l = true ∧ placeB x = true then (if hasI l x = true then (l, (0 : Int)) else if l.length = 16 then ([], 801) else (insP l x, 0)) else ([], 800)
def foldC : List Int → List Int → List Int
  | acc, [] => acc
  | acc, x :: l => foldC (withC11 acc x).1 l
theorem foldC_eq : ∀ (l acc : List Int), foldW acc l = foldC acc l
  | [], _ => rfl
  | x :: l, acc => by
    unfold foldW foldC
    rw [show withP acc x = withC11 acc x from withP_def acc x, foldC_eq l]
def tickC (v : GView) : GView × List Int × Int := if viewB v = true then ((⟨v.id, leftP v.peers, foldC v.passive (lostP v.peers)⟩ : GView), namesP (leftP v.peers) ++ foldC v.passive (lostP v.peers), (0 : Int)) else (viewZ, [], 1100)
theorem tickC_eq (v : GView) : tickV v = tickC v := by
  rw [tickV_def, foldC_eq]
  rfl
end Go.Proofs.YtmhieddhmebfhaaGreat

/- Chapter 19: node 100; awake. -/
namespace Go.Proofs.YtmhieddhmebfhaaGreat
open Go.RowKit
set_option maxRecDepth 20000
theorem k_it19 : Known Tryz.prog tau 91 (S2 dInt dInt fun k c => .ok (.agg [.int .i64 k, .int .i64 c, .int .i64 1, .int .i64 (bits .and .i64 c 255), .bool false]) []) := by
  refine known2 hmix tau_ok ctx_nil (fn := Tryz.f91) (by kernel_rfl) [] (by kernel_rfl) _ _ _ fun k c hfit => ⟨rfl, [], ?_⟩
  clear hfit
  (repeat' (first | ((with_reducible refine BdI ?_); (first | ((with_reducible refine SqI ?_ (fun Kv hN hX hR => ?_)); (next => exact rfl)) | ((with_reducible refine JnI ?_ ?_); (next => exact rfl)) | (conv => whnf))) | (with_reducible first | refine BdS (fun Kv hN hX hR => ?_) | refine Stop.mk ?_ | refine Join.mk ⟨fun Kv hN hX hR => ?_, ?_⟩ | refine DrawJ.each ?_ | exact SubJ.self _) | with_reducible refine SubJ.of ?_ | (with_reducible first | refine FlS (fun Kf hF => ?_) | refine FlN ?_ | refine NdS (fun Kg hG => ?_) | (refine hF _ _ ?_; clear hF; clear Kf) | (refine hG _ _ _ _ ?_; clear hG; clear Kg)) | ((with_reducible refine SqI ?_ (fun Kv hN hX hR => ?_)); (next => exact rfl)) | ((with_reducible refine JnI ?_ ?_); (next => exact rfl)) | ((with_reducible first | refine hN _ ?_ | refine hX _ _ ?_ | refine hR _ ?_); (try (clear hG; clear Kg)); clear hN hX hR; clear Kv) | ((conv => whnf); first | (with_reducible first | rfl | exact True.intro | intro _ | refine And.intro ?_ ?_) | ((with_reducible first | refine hN _ ?_ | refine hX _ _ ?_ | refine hR _ ?_); (try (clear hG; clear Kg)); clear hN hX hR; clear Kv) | (with_reducible first | refine BdS (fun Kv hN hX hR => ?_) | refine Stop.mk ?_ | refine Join.mk ⟨fun Kv hN hX hR => ?_, ?_⟩ | refine DrawJ.each ?_ | exact SubJ.self _) | with_reducible refine SubJ.of ?_ | (with_reducible first | refine FlS (fun Kf hF => ?_) | refine FlN ?_ | refine NdS (fun Kg hG => ?_) | (refine hF _ _ ?_; clear hF; clear Kf) | (refine hG _ _ _ _ ?_; clear hG; clear Kg))))); all_goals (conv => whnf); all_goals (repeat ((try (clear hG; clear Kg)); clear hN hX hR; clear Kv))
  all_goals rfl
def n19 : GNode := ⟨true, ⟨100, [⟨101, 2⟩, ⟨200, 0⟩, ⟨90, 1⟩], [7]⟩, [⟨95, ⟨1, 1⟩, bits .and .i64 1 255, false⟩, ⟨99, ⟨3, 1⟩, bits .and .i64 3 255, false⟩, ⟨250, ⟨2, 1⟩, bits .and .i64 2 255, false⟩], []⟩
theorem k_node19 : Known Tryz.prog tau 49 (S0 (.ok (.agg [.bool true, .int .i64 100, .own 0, .own 1, .own 2, .row .new (.tolds [])]) [.peers n19.view.peers, .ints n19.view.passive, .items n19.items])) := by
  refine known0 hmix tau_ok (ctx_cons k_it19 ctx_nil) (fn := Tryz.f49) (by kernel_rfl) [] (by kernel_rfl) _ fun hfit => ⟨rfl, [], ?_⟩
  clear hfit
  (repeat' (first | ((with_reducible refine BdI ?_); (first | ((with_reducible refine SqI ?_ (fun Kv hN hX hR => ?_)); (next => exact rfl)) | ((with_reducible refine JnI ?_ ?_); (next => exact rfl)) | (conv => whnf))) | (with_reducible first | refine BdS (fun Kv hN hX hR => ?_) | refine Stop.mk ?_ | refine Join.mk ⟨fun Kv hN hX hR => ?_, ?_⟩ | refine DrawJ.each ?_ | exact SubJ.self _) | with_reducible refine SubJ.of ?_ | (with_reducible first | refine FlS (fun Kf hF => ?_) | refine FlN ?_ | refine NdS (fun Kg hG => ?_) | (refine hF _ _ ?_; clear hF; clear Kf) | (refine hG _ _ _ _ ?_; clear hG; clear Kg)) | ((with_reducible refine SqI ?_ (fun Kv hN hX hR => ?_)); (next => exact rfl)) | ((with_reducible refine JnI ?_ ?_); (next => exact rfl)) | ((with_reducible first | refine hN _ ?_ | refine hX _ _ ?_ | refine hR _ ?_); (try (clear hG; clear Kg)); clear hN hX hR; clear Kv) | ((conv => whnf); first | (with_reducible first | rfl | exact True.intro | intro _ | refine And.intro ?_ ?_) | ((with_reducible first | refine hN _ ?_ | refine hX _ _ ?_ | refine hR _ ?_); (try (clear hG; clear Kg)); clear hN hX hR; clear Kv) | (with_reducible first | refine BdS (fun Kv hN hX hR => ?_) | refine Stop.mk ?_ | refine Join.mk ⟨fun Kv hN hX hR => ?_, ?_⟩ | refine DrawJ.each ?_ | exact SubJ.self _) | with_reducible refine SubJ.of ?_ | (with_reducible first | refine FlS (fun Kf hF => ?_) | refine FlN ?_ | refine NdS (fun Kg hG => ?_) | (refine hF _ _ ?_; clear hF; clear Kf) | (refine hG _ _ _ _ ?_; clear hG; clear Kg))))); all_goals (conv => whnf); all_goals (repeat ((try (clear hG; clear Kg)); clear hN hX hR; clear Kv))
  all_goals first
    | (refine Ob.mk ?_; decide)
    | rfl
    | trace_state
/-- The same, to be reckoned. -/
def ownC (v : GView) (k : Int) : Int := if viewB v = true ∧ placeB k = true then (if rowMayB k (namesP v.peers ++ [v.id]) = true then minP k ((namesP v.peers ++ [v.id]).getD 0 0) ((namesP v.peers ++ [v.id]).drop 1) else 0) else 0
theorem ownC_eq (v : GView) (k : Int) : (ownV v k).1 = ownC v k := by
  rw [ownV_def, ownP_def, ownC]
  split
  · by_cases h : rowMayB k (namesP v.peers ++ [v.id]) = true
    · rw [if_pos ⟨h, by simp⟩, if_pos h]
    · rw [if_neg fun x => h x.1, if_neg h]
  · rfl
def succC (v : GView) : Int := if viewB v = true then (if v.peers.length = 0 then v.id else (namesP v.peers).getD 0 0) else 0
theorem succC_eq (v : GView) : (succV v).1 = succC v := by
  rw [succV_def, succC]
  split
  · split <;> rfl
  · rfl
def shareC (v : GView) : List GItem → List GMsg
  | [] => []
  | i :: l => (if (if ownC v i.key = v.id then succC v else ownC v i.key) = v.id then [] else [(⟨1, v.id, (if ownC v i.key = v.id then succC v else ownC v i.key), [], 0, i, false⟩ : GMsg)]) ++ shareC v l
theorem shareC_eq (v : GView) : ∀ l, shareL v l = shareC v l
  | [] => rfl
  | i :: l => by
    unfold shareL shareC toV
    rw [ownC_eq, succC_eq, shareC_eq v l]
def tickNC (x : GNode) : GNode × List GMsg × Int := if (x.up && nodeB x) = true then ((⟨x.up, (tickC x.view).1, x.items, x.log⟩ : GNode), helloL (tickC x.view).1 (tickC x.view).2.1 ++ (if (x.up && nodeB ⟨x.up, (tickC x.view).1, x.items, x.log⟩) = true then shareC (tickC x.view).1 x.items else []), (0 : Int)) else (nodeZ, [], 1900)
theorem tickNC_eq (x : GNode) : tickN x = tickNC x := by
  rw [tickN_def, shareN_def, tickC_eq, tickNC]
  split
  · congr 3
    split
    · exact shareC_eq _ _
    · rfl
  · rfl
def m19 : List GMsg := (tickNC n19).2.1
theorem aw19_a : tickN ⟨true, ⟨100, n19.view.peers, n19.view.passive⟩, n19.items, []⟩ = (⟨true, ⟨100, [⟨200, 1⟩, ⟨90, 2⟩], [7, 101]⟩, n19.items, []⟩, m19, 0) := by rw [tickNC_eq]; decide
theorem aw19_l : m19.length = 7 := by decide
theorem aw19_z : tickN ⟨false, ⟨0, [], []⟩, [], []⟩ = (nodeZ, [], 1900) := by rw [tickNC_eq]; decide
set_option maxHeartbeats 1000000 in
theorem k_awake19 : Known Tryz.prog tau 15 (S0 (okB true)) := by
  refine known0 hmix tau_ok (ctx_cons k_node19 (ctx_cons k_tickStep (ctx_cons k_Num (ctx_cons k_SameInts ctx_nil)))) (fn := Tryz.f15) (by kernel_rfl) [] (by kernel_rfl) _ fun hfit => ⟨rfl, [], ?_⟩
  clear hfit
  (repeat' (first | ((with_reducible refine BdI ?_); (first | ((with_reducible refine SqI ?_ (fun Kv hN hX hR => ?_)); (next => exact rfl)) | ((with_reducible refine JnI ?_ ?_); (next => exact rfl)) | (conv => whnf))) | (with_reducible first | refine BdS (fun Kv hN hX hR => ?_) | refine Stop.mk ?_ | refine Join.mk ⟨fun Kv hN hX hR => ?_, ?_⟩ | refine DrawJ.each ?_ | exact SubJ.self _) | with_reducible refine SubJ.of ?_ | (with_reducible first | refine FlS (fun Kf hF => ?_) | refine FlN ?_ | refine NdS (fun Kg hG => ?_) | (refine hF _ _ ?_; clear hF; clear Kf) | (refine hG _ _ _ _ ?_; clear hG; clear Kg)) | ((with_reducible refine SqI ?_ (fun Kv hN hX hR => ?_)); (next => exact rfl)) | ((with_reducible refine JnI ?_ ?_); (next => exact rfl)) | ((with_reducible first | refine hN _ ?_ | refine hX _ _ ?_ | refine hR _ ?_); (try (clear hG; clear Kg)); clear hN hX hR; clear Kv) | ((conv => whnf); first | (with_reducible first | rfl | exact True.intro | intro _ | refine And.intro ?_ ?_) | ((with_reducible first | refine hN _ ?_ | refine hX _ _ ?_ | refine hR _ ?_); (try (clear hG; clear Kg)); clear hN hX hR; clear Kv) | (with_reducible first | refine BdS (fun Kv hN hX hR => ?_) | refine Stop.mk ?_ | refine Join.mk ⟨fun Kv hN hX hR => ?_, ?_⟩ | refine DrawJ.each ?_ | exact SubJ.self _) | with_reducible refine SubJ.of ?_ | (with_reducible first | refine FlS (fun Kf hF => ?_) | refine FlN ?_ | refine NdS (fun Kg hG => ?_) | (refine hF _ _ ?_; clear hF; clear Kf) | (refine hG _ _ _ _ ?_; clear hG; clear Kg))))); all_goals (conv => whnf); all_goals (repeat ((try (clear hG; clear Kg)); clear hN hX hR; clear Kv))
  all_goals (try simp only [aw19_a, aw19_z, aw19_l] at *)
  all_goals first
    | (refine Ob.mk ?_; decide)
    | rfl
    | (exfalso; rename_i h; revert h; decide)
    | trace_state
end Go.Proofs.YtmhieddhmebfhaaGreat

/- Plain: a node's turn. -/
namespace Go.Proofs.YtmhieddhmebfhaaGreat
open Go.RowKit
end Go.Proofs.YtmhieddhmebfhaaGreat

/- Plain: a view's turn: whom it greets; marks. -/
namespace Go.Proofs.YtmhieddhmebfhaaGreat
open Go.RowKit
end Go.Proofs.YtmhieddhmebfhaaGreat

/- Contracts: msg. -/
namespace Go.Proofs.YtmhieddhmebfhaaGreat
open Go.RowKit
set_option maxRecDepth 20000

theorem etaMsg (m : GMsg) : (⟨m.kind, m.src, m.dst, m.ids, m.key, ⟨m.item.key, ⟨m.item.ver.count, m.item.ver.writer⟩, m.item.value, m.item.gone⟩, m.has⟩ : GMsg) = m := rfl
end Go.Proofs.YtmhieddhmebfhaaGreat

/- Plain: whom a node's turn greets. -/
namespace Go.Proofs.YtmhieddhmebfhaaGreat
open Go.RowKit
theorem etaNode2 (x : GNode) : (⟨x.up, x.view, x.items, x.log⟩ : GNode) = x := rfl
end Go.Proofs.YtmhieddhmebfhaaGreat

/- A symbolic executor for loaded Go code: rows that are written over. -/
namespace Go.Proofs.YtmhieddhmebfhaaGreat
open Go.RowKit

/-! ### 1. Whole numbers of one block may have become others -/
structure Hav (g0 : Nat) (w w' : World) : Prop where
  below : Below g0 w w'
  size : w'.heap.size = w.heap.size
  out : ∀ g, g ≠ g0 → w'.heap[g]? = w.heap[g]?
  obj : ∀ o, w.heap[g0]? = some o → (w'.heap[g0]? = some o) ∨ ∃ c c' T f, o = .cells c T f ∧ w'.heap[g0]? = some (.cells c' T f) ∧ c'.size = c.size
  cell : ∀ a : Addr, w'.cell? a = w.cell? a ∨ ∃ z z', w.cell? a = some (.int .i64 z) ∧ w'.cell? a = some (.int .i64 z')
theorem Hav.refl (g0 : Nat) (w : World) : Hav g0 w w := ⟨Below.refl _ _, rfl, fun _ _ => rfl, fun _ h => .inl h, fun _ => .inl rfl⟩
theorem Hav.store {g0 : Nat} {w wr : World} (h : Hav g0 w wr) {a : Addr} (ha : a.block = g0) (hs : a.spot = none) {z z' : Int} (hz : wr.cell? a = some (.int .i64 z)) : Hav g0 w (wr.setCell a (.int .i64 z')) := by
  refine ⟨h.below.setCell (by omega) _, by rw [← h.size]; simp [World.setCell], fun g hg => ?_, fun o ho => ?_, fun b => ?_⟩
  · rw [Below.heap_setCell _ _ _ _ (by omega)]; exact h.out g hg
  · have key : ∀ o1, wr.heap[g0]? = some o1 → (∃ c T f, o1 = .cells c T f ∧ (wr.setCell a (.int .i64 z')).heap[g0]? = some (.cells (c.setIfInBounds a.off (.int .i64 z')) T f)) := by
      intro o1 ho1
      have hc := hz
      unfold World.cell? at hc
      rw [ha, ho1] at hc
      cases o1 with
      | cells c T f =>
        refine ⟨c, T, f, rfl, ?_⟩
        simp only [World.setCell, Array.getElem?_modify, ha, if_true, ho1, Option.map_some, hs]
        rfl
      | _ => simp at hc
    rcases h.obj o ho with h1 | ⟨c, c', T, f, rfl, h1, h2⟩
    · obtain ⟨c, T, f, rfl, h3⟩ := key o h1
      exact .inr ⟨c, _, T, f, rfl, h3, by simp⟩
    · obtain ⟨c2, T2, f2, e, h3⟩ := key _ h1
      injection e with e1 e2 e3
      subst e1 e2 e3
      exact .inr ⟨c, _, _, _, rfl, h3, by simpa using h2⟩
  · by_cases hb : a = b
    · subst hb
      refine .inr ?_
      rw [World.cell?_setCell_same _ _ _ hz]
      rcases h.cell a with h1 | ⟨y, y', h1, h2⟩
      · exact ⟨z, z', by rw [← h1]; exact hz, rfl⟩
      · exact ⟨y, z', h1, rfl⟩
    · rw [World.cell?_setCell_other _ _ _ _ hb]
      exact h.cell b
theorem Hav.unfz {g0 : Nat} {w w' : World} (h : Hav g0 w w') {g : Nat} (hu : unfz w g) : unfz w' g := by
  by_cases hg : g = g0
  · subst hg
    intro c T lo hi hc
    have hlt : g < w'.heap.size := (Array.getElem?_eq_some_iff.1 hc).1
    rw [h.size] at hlt
    rcases h.obj _ (Array.getElem?_eq_getElem hlt) with h1 | ⟨c1, c', T1, f, e, h1, h2⟩
    · exact hu c T lo hi (by rw [← hc, h1]; exact Array.getElem?_eq_getElem hlt)
    · rw [h1] at hc
      injection hc with hc
      injection hc with e1 e2 e3
      subst e1
      have := hu c1 T1 lo hi (by rw [Array.getElem?_eq_getElem hlt, e, e3])
      rw [h2]
      exact this
  · exact hu.of (h.out g hg)
theorem unfz_frozen {w : World} {a : Addr} {v : Value} (h : unfz w a.block) (hc : w.cell? a = some v) : w.frozen? a = false := by
  unfold World.cell? at hc
  unfold World.frozen?
  split at hc
  · rename_i c T f hh
    obtain ⟨lo, hi⟩ := f
    rw [hh]
    have := h c T lo hi hh
    split at hc
    · simp at hc
    · have hlt := (Array.getElem?_eq_some_iff.1 hc).1
      simp only [Bool.and_eq_false_iff, decide_eq_false_iff_not]
      omega
  · simp at hc
/-! ### 2. Rows, read again -/
theorem like_zeros (r : Rw) (i : Nat) : likeL ((Rw.zeros r.kd 1).cell .any 0) (r.cell .any i) := by
  cases r <;> refine ⟨rfl, fun j y hy => ?_⟩ <;> simp only [Rw.kd, Rw.zeros, Rw.cell, List.replicate, List.getD_cons_zero, GItem.cells, GPeer.cells, GTold.cells, GCut.cells, GMsg.cells, GNode.cells, GAct.cells] at hy ⊢ <;>
    (match j, hy with
      | 0, hy | 1, hy | 2, hy | 3, hy | 4, hy | 5, hy | 6, hy | 7, hy | 8, hy | 9, hy | 10, hy => first
        | (simp at hy; done)
        | (simp at hy; subst hy; exact ⟨_, rfl, _, rfl⟩)
        | (simp at hy; subst hy; exact ⟨_, rfl, _, rfl, rfl⟩)
      | j + 11, hy => simp at hy)
/-- Of the same shape. -/
def alike : SV → SV → Prop
  | .int k _, x => ∃ n, x = .int k n
  | .bool _, x => ∃ b, x = .bool b
  | .str _, x => ∃ s, x = .str s
  | .row _ r, x => ∃ r' : Rw, x = .row .any r' ∧ r'.kd = r.kd
  | _, _ => False
theorem like_trans {z x y : SV} (h : like z x) (h2 : alike x y) : like z y := by
  cases z <;> first
    | exact h.elim
    | (obtain ⟨n, rfl⟩ := h; exact h2)
    | (obtain ⟨r', rfl, hk⟩ := h; obtain ⟨r2, rfl, hk2⟩ := h2; exact ⟨r2, rfl, hk2.trans hk⟩)
/-- A row, rebuilt cell by cell. -/
theorem rebuild (r : Rw) (Q : Nat → Nat → SV → Prop) (h : ∀ i j x, i < r.len → (r.cell .any i)[j]? = some x → ∃ y, alike x y ∧ Q i j y) :
    ∃ r' : Rw, r'.kd = r.kd ∧ r'.len = r.len ∧ ∀ i j y, i < r.len → (r'.cell .any i)[j]? = some y → Q i j y := by
  have h1 : ∀ i j, ∃ y, ∀ x, i < r.len → (r.cell .any i)[j]? = some x → alike x y ∧ Q i j y := by
    intro i j
    by_cases hi : i < r.len
    · cases hx : (r.cell .any i)[j]? with
      | none => exact ⟨.junk, fun x _ h => by simp at h⟩
      | some x =>
        obtain ⟨y, h2, h3⟩ := h i j x hi hx
        exact ⟨y, fun x' _ h' => by injection h' with h'; subst h'; exact ⟨h2, h3⟩⟩
    · exact ⟨.junk, fun x h' => absurd h' hi⟩
  obtain ⟨Y, hY⟩ : ∃ Y : Nat → Nat → SV, ∀ i j x, i < r.len → (r.cell .any i)[j]? = some x → alike x (Y i j) ∧ Q i j (Y i j) := ⟨fun i j => Classical.choose (h1 i j), fun i j => Classical.choose_spec (h1 i j)⟩
  have hX : ∀ i (hi : i < r.len), ((List.range (r.cell .any i).length).map (Y i)).length = (r.cell .any i).length ∧ ∀ j x, (r.cell .any i)[j]? = some x → ∃ y, ((List.range (r.cell .any i).length).map (Y i))[j]? = some y ∧ alike x y ∧ Q i j y := by
    intro i hi
    refine ⟨by simp, fun j x hx => ⟨Y i j, ?_, hY i j x hi hx⟩⟩
    have hjl := (List.getElem?_eq_some_iff.1 hx).1
    simp only [List.getElem?_map, List.getElem?_range hjl, Option.map_some]
  have hk12 : r.kd < 12 := by cases r <;> simp [Rw.kd]
  obtain ⟨r', h1, h2, h3⟩ := mkLike r.kd r.len hk12 (fun i => (List.range (r.cell .any i).length).map (Y i)) fun i hi => by
    have hz := like_zeros r i
    obtain ⟨g1, g2⟩ := hX i hi
    refine ⟨hz.1.trans g1.symm, fun j z hzj => ?_⟩
    obtain ⟨x, hx, hzx⟩ := hz.2 j z hzj
    obtain ⟨y, hy, hxy, _⟩ := g2 j x hx
    exact ⟨y, hy, like_trans hzx hxy⟩
  refine ⟨r', h1, h2, fun i j y hi hy => ?_⟩
  rw [h3 i hi] at hy
  obtain ⟨g1, g2⟩ := hX i hi
  have hjl : j < (r.cell .any i).length := by rw [← g1]; exact (List.getElem?_eq_some_iff.1 hy).1
  obtain ⟨y', hy', _, hQ⟩ := g2 j _ (List.getElem?_eq_getElem hjl)
  rw [hy] at hy'
  injection hy' with hy'
  rw [hy']
  exact hQ
theorem cell_kind (r : Rw) {i j : Nat} {x : SV} (h : (r.cell .any i)[j]? = some x) : (∃ k n, x = .int k n) ∨ (∃ b, x = .bool b) ∨ (∃ s, x = .str s) ∨ ∃ r', x = .row .any r' ∧ r'.flat = true := by
  have hm := List.mem_of_getElem? h
  cases r <;> simp [Rw.cell, GItem.cells, GPeer.cells, GTold.cells, GCut.cells, GMsg.cells, GNode.cells, GAct.cells] at hm
  · exact .inl ⟨_, _, hm⟩
  · exact .inl ⟨_, _, hm⟩
  · exact .inr (.inr (.inl ⟨_, hm⟩))
  · rcases hm with h | h <;> exact .inl ⟨_, _, h⟩
  · rcases hm with h | h | h | h | h <;> first | exact .inl ⟨_, _, h⟩ | exact .inr (.inl ⟨_, h⟩)
  · rcases hm with h | h | h <;> first | exact .inl ⟨_, _, h⟩ | exact .inr (.inl ⟨_, h⟩)
  · rcases hm with h | h <;> exact .inl ⟨_, _, h⟩
  · rcases hm with h | h | h | h | h | h | h | h | h | h | h <;> first | exact .inl ⟨_, _, h⟩ | exact .inr (.inl ⟨_, h⟩) | exact .inr (.inr (.inr ⟨_, h, rfl⟩))
  · rcases hm with h | h | h | h | h | h <;> first | exact .inl ⟨_, _, h⟩ | exact .inr (.inl ⟨_, h⟩) | exact .inr (.inr (.inr ⟨_, h, rfl⟩))
  · rcases hm with h | h | h | h | h | h | h <;> first | exact .inl ⟨_, _, h⟩ | exact .inr (.inl ⟨_, h⟩) | exact .inr (.inr (.inr ⟨_, h, rfl⟩))
  · exact .inr (.inr (.inr ⟨_, hm, rfl⟩))
  · exact .inr (.inl ⟨_, hm⟩)
theorem hav_flat {g0 : Nat} {w w' : World} (h : Hav g0 w w') {F F' : Nat → Prop} (hF : ∀ g, F g → F' g) {r : Rw} {v : Value} (hd : RowD sc w F r v) : ∃ r' : Rw, r'.kd = r.kd ∧ r'.len = r.len ∧ RowD sc w' F' r' v := by
  obtain ⟨h0, A, c, hv, hn, hc⟩ := hd
  obtain ⟨r', h1, h2, h3⟩ := rebuild r (fun i j y => ∀ ad : Addr, A = some ad → ∃ u, w'.cell? (ad.add (i * r.sz + j)) = some u ∧ sc y u) (fun i j x hi hx => by
    obtain ⟨ad, hA, hs, hFb, hcell⟩ := hc (by omega)
    obtain ⟨u, hu, hsc⟩ := hcell i j x hi hx
    have hcc := h.cell (ad.add (i * r.sz + j))
    rcases cell_kind r hx with ⟨k, n, rfl⟩ | ⟨b, rfl⟩ | ⟨b, rfl⟩ | ⟨r1, rfl, _⟩
    · obtain rfl : u = .int k n := hsc
      rcases hcc with e | ⟨z, z', e1, e2⟩
      · exact ⟨.int k n, ⟨n, rfl⟩, fun ad' h' => ⟨_, by rw [hA] at h'; injection h' with h'; subst h'; rw [e]; exact hu, rfl⟩⟩
      · rw [hu] at e1
        injection e1 with e1
        injection e1 with e3 e4
        subst e3
        exact ⟨.int .i64 z', ⟨z', rfl⟩, fun ad' h' => ⟨_, by rw [hA] at h'; injection h' with h'; subst h'; exact e2, rfl⟩⟩
    · obtain rfl : u = .bool b := hsc
      rcases hcc with e | ⟨z, z', e1, e2⟩
      · exact ⟨.bool b, ⟨b, rfl⟩, fun ad' h' => ⟨_, by rw [hA] at h'; injection h' with h'; subst h'; rw [e]; exact hu, rfl⟩⟩
      · rw [hu] at e1; simp at e1
    · obtain rfl : u = .string b := hsc
      rcases hcc with e | ⟨z, z', e1, e2⟩
      · exact ⟨.str b, ⟨b, rfl⟩, fun ad' h' => ⟨_, by rw [hA] at h'; injection h' with h'; subst h'; rw [e]; exact hu, rfl⟩⟩
      · rw [hu] at e1; simp at e1
    · exact hsc.elim)
  have hsz : r'.sz = r.sz := Rw.sz_of_kd h1
  have hbt : r'.bts = r.bts := by unfold Rw.bts; rw [h1]
  refine ⟨r', h1, h2, by rw [h2, hbt]; exact h0, A, c, by rw [h2]; exact hv, by rw [h2]; exact hn, fun hp => ?_⟩
  rw [h2] at hp
  obtain ⟨ad, hA, hs, hFb, _⟩ := hc hp
  refine ⟨ad, hA, hs, hF _ hFb, fun i j y hi hy => ?_⟩
  rw [h2] at hi
  obtain ⟨u, hu, hsc⟩ := h3 i j y hi hy ad hA
  exact ⟨u, by rw [hsz]; exact hu, hsc⟩
/-- A cell, read again. -/
theorem hav_cd {g0 : Nat} {w w' : World} (h : Hav g0 w w') {F F' : Nat → Prop} (hF : ∀ g, F g → F' g) {r : Rw} {i j : Nat} {x : SV} (hx : (r.cell .any i)[j]? = some x) {u u' : Value} (hd : cd1 w F x u) (hu : u' = u ∨ ∃ z z', u = .int .i64 z ∧ u' = .int .i64 z') :
    ∃ y, alike x y ∧ cd1 w' F' y u' := by
  rcases cell_kind r hx with ⟨k, n, rfl⟩ | ⟨b, rfl⟩ | ⟨b, rfl⟩ | ⟨r1, rfl, _⟩
  · obtain rfl : u = .int k n := hd
    rcases hu with rfl | ⟨z, z', e1, rfl⟩
    · exact ⟨.int k n, ⟨n, rfl⟩, rfl⟩
    · injection e1 with e3 e4
      subst e3
      exact ⟨.int .i64 z', ⟨z', rfl⟩, rfl⟩
  · obtain rfl : u = .bool b := hd
    rcases hu with rfl | ⟨z, z', e1, rfl⟩
    · exact ⟨.bool b, ⟨b, rfl⟩, rfl⟩
    · simp at e1
  · obtain rfl : u = .string b := hd
    rcases hu with rfl | ⟨z, z', e1, rfl⟩
    · exact ⟨.str b, ⟨b, rfl⟩, rfl⟩
    · simp at e1
  · have hd' : RowD sc w F r1 u := hd
    obtain ⟨r2, h1, h2, h3⟩ := hav_flat h hF hd'
    rcases hu with rfl | ⟨z, z', e1, rfl⟩
    · exact ⟨.row .any r2, ⟨r2, rfl, h1⟩, h3⟩
    · obtain ⟨_, A, c, hv, _⟩ := hd'
      rw [hv] at e1
      simp at e1
theorem hav_den {g0 : Nat} {w w' : World} (h : Hav g0 w w') {F F' : Nat → Prop} (hF : ∀ g, F g → F' g) {r : Rw} {v : Value} (hd : RowDen w F r v) : ∃ r' : Rw, r'.kd = r.kd ∧ r'.len = r.len ∧ RowDen w' F' r' v := by
  obtain ⟨h0, A, c, hv, hn, hc⟩ := hd
  obtain ⟨r', h1, h2, h3⟩ := rebuild r (fun i j y => ∀ ad : Addr, A = some ad → ∃ u, w'.cell? (ad.add (i * r.sz + j)) = some u ∧ cd1 w' F' y u) (fun i j x hi hx => by
    obtain ⟨ad, hA, hs, hFb, hcell⟩ := hc (by omega)
    obtain ⟨u, hu, hsc⟩ := hcell i j x hi hx
    obtain ⟨u', hu', hrel⟩ : ∃ u', w'.cell? (ad.add (i * r.sz + j)) = some u' ∧ (u' = u ∨ ∃ z z', u = .int .i64 z ∧ u' = .int .i64 z') := by
      rcases h.cell (ad.add (i * r.sz + j)) with e | ⟨z, z', e1, e2⟩
      · exact ⟨u, by rw [e]; exact hu, .inl rfl⟩
      · rw [hu] at e1
        injection e1 with e1
        exact ⟨_, e2, .inr ⟨z, z', e1, rfl⟩⟩
    obtain ⟨y, hy1, hy2⟩ := hav_cd h hF hx hsc hrel
    exact ⟨y, hy1, fun ad' h' => ⟨u', by rw [hA] at h'; injection h' with h'; subst h'; exact hu', hy2⟩⟩)
  have hsz : r'.sz = r.sz := Rw.sz_of_kd h1
  have hbt : r'.bts = r.bts := by unfold Rw.bts; rw [h1]
  refine ⟨r', h1, h2, by rw [h2, hbt]; exact h0, A, c, by rw [h2]; exact hv, by rw [h2]; exact hn, fun hp => ?_⟩
  rw [h2] at hp
  obtain ⟨ad, hA, hs, hFb, _⟩ := hc hp
  refine ⟨ad, hA, hs, hF _ hFb, fun i j y hi hy => ?_⟩
  rw [h2] at hi
  obtain ⟨u, hu, hsc⟩ := h3 i j y hi hy ad hA
  exact ⟨u, by rw [hsz]; exact hu, hsc⟩
theorem hav_own {τ : Tys} {E : Env} {g0 : Nat} {w w' : World} (h : Hav g0 w w') (hg : ¬ E.ow g0) (hF : ∀ t g, E.F w t g → E.F w' t g) {k lo : Nat} {r : Rw} (hd : OwnD τ E w k lo r) : ∃ r' : Rw, r'.kd = r.kd ∧ r'.len = r.len ∧ OwnD τ E w' k lo r' := by
  obtain ⟨ho, hf, us, hrow, hc⟩ := hd
  obtain ⟨r', h1, h2, h3⟩ := rebuild r (fun i j y => ∃ u, us[i * r.sz + j]? = some u ∧ cd1 w' (E.F w' (if i < lo then .new else .any)) y u) (fun i j x hi hx => by
    obtain ⟨u, hu, hcd⟩ := hc i j x hi hx
    obtain ⟨y, hy1, hy2⟩ := hav_cd h (hF _) hx hcd (.inl rfl)
    exact ⟨y, hy1, u, hu, hy2⟩)
  have hsz : r'.sz = r.sz := Rw.sz_of_kd h1
  have hbt : r'.bts = r.bts := by unfold Rw.bts; rw [h1]
  refine ⟨r', h1, h2, ho, by rw [h2, hbt]; exact hf, us, ?_, fun i j y hi hy => ?_⟩
  · rw [h1, h2, hsz]
    refine ⟨hrow.1, ?_⟩
    rcases hrow.2 with h4 | ⟨g, cap, cur, hv, hb, hheap, h5⟩
    · exact .inl h4
    · refine .inr ⟨g, cap, cur, hv, hb, ?_, h5⟩
      rw [h.out g (fun e => hg (e ▸ ho g (by rw [hv]; rfl)))]
      exact hheap
  · rw [hsz]
    exact h3 i j y (by omega) hy
/-! ### 3. States -/
def havR (r : Rw) (K : Rw → Prop) : Prop := match r with
  | .ints l => ∀ l' : List Int, l'.length = l.length → K (.ints l')
  | .bytes l => ∀ l' : List Int, l'.length = l.length → K (.bytes l')
  | .strs l => ∀ l' : List ByteArray, l'.length = l.length → K (.strs l')
  | .peers l => ∀ l' : List GPeer, l'.length = l.length → K (.peers l')
  | .items l => ∀ l' : List GItem, l'.length = l.length → K (.items l')
  | .tolds l => ∀ l' : List GTold, l'.length = l.length → K (.tolds l')
  | .cuts l => ∀ l' : List GCut, l'.length = l.length → K (.cuts l')
  | .msgs l => ∀ l' : List GMsg, l'.length = l.length → K (.msgs l')
  | .nodes l => ∀ l' : List GNode, l'.length = l.length → K (.nodes l')
  | .acts l => ∀ l' : List GAct, l'.length = l.length → K (.acts l')
  | .intss l => ∀ l' : List (List Int), l'.length = l.length → K (.intss l')
  | .bools l => ∀ l' : List Bool, l'.length = l.length → K (.bools l')
theorem havR_use {r r' : Rw} {K : Rw → Prop} (h : havR r K) (h1 : r'.kd = r.kd) (h2 : r'.len = r.len) : K r' := by
  cases r <;> cases r' <;> first
    | exact h _ h2
    | (simp [Rw.kd] at h1; done)
def havV0 (v : SV) (K : SV → Prop) : Prop := match v with
  | .int k n => K (.int k n)
  | .bool b => K (.bool b)
  | .lit b => K (.lit b)
  | .str b => K (.str b)
  | .row .new r => havR r fun r' => K (.row .new r')
  | .row .old r => K (.row .old r)
  | .nilS r => K (.nilS r)
  | .pre .old r n => K (.pre .old r n)
  | .own k => K (.own k)
  | .box k off => K (.box k off)
  | .pt .old cs => K (.pt .old cs)
  | .oel k i off => K (.oel k i off)
  | _ => K .junk
def havL : List SV → (List SV → Prop) → Prop
  | [], K => K []
  | v :: l, K => havV0 v fun v' => havL l fun l' => K (v' :: l')
/-- A value of a frame: what isn't old is forgotten. -/
def hvT0 : SV → SV
  | .int k n => .int k n
  | .bool b => .bool b
  | .lit b => .lit b
  | .str b => .str b
  | .row .old r => .row .old r
  | .nilS r => .nilS r
  | .pre .old r n => .pre .old r n
  | .own k => .own k
  | .box k off => .box k off
  | .pt .old cs => .pt .old cs
  | .oel k i off => .oel k i off
  | _ => .junk
def hvL : List SV → List SV
  | [] => []
  | v :: l => hvT0 v :: hvL l
def hvT : SV → SV
  | .agg cs => .agg (hvL cs)
  | v => hvT0 v
def hvF : List (Nat × SV) → List (Nat × SV)
  | [] => []
  | (t, v) :: l => (t, hvT v) :: hvF l
def hvS : List (List (Nat × SV)) → List (List (Nat × SV))
  | [] => []
  | f :: l => hvF f :: hvS l
def havB : List (Nat × (TypeId × List SV)) → (List (Nat × (TypeId × List SV)) → Prop) → Prop
  | [], K => K []
  | (k, (T, cs)) :: l, K => havL cs fun cs' => havB l fun l' => K ((k, (T, cs')) :: l')
/-- Rows that are read alone, and aren't old, are forgotten. -/
def dropSh : List (Nat × Ent) → List (Nat × Ent)
  | [] => []
  | (k, e) :: l => match e with
    | .shared .old r => (k, .shared .old r) :: dropSh l
    | .shared _ _ => dropKey (dropSh l) k
    | .own r => (k, .own r) :: dropSh l
    | .part lo r => (k, .part lo r) :: dropSh l
def havE : List (Nat × Ent) → (List (Nat × Ent) → Prop) → Prop
  | [], K => K []
  | (k, e) :: l, K => match e with
    | .own r => match r.flat with
      | true => havE l fun l' => K ((k, .own r) :: l')
      | false => havR r fun r' => havE l fun l' => K ((k, .own r') :: l')
    | .part lo r => havR r fun r' => havE l fun l' => K ((k, .part lo r') :: l')
    | .shared t r => havE l fun l' => K ((k, .shared t r) :: l')
def havSt (s : St) (K : St → Prop) : Prop := match s with
  | ⟨fr, stk, bx, rw, dep⟩ => havE (dropSh rw) fun rw => forceF (hvF fr) fun fr => havB bx fun bx => K ⟨fr, hvS stk, bx, rw, dep⟩
section
variable {τ : Tys} {w0 : World} {E : Env} {w w' : World} {g0 : Nat}
theorem dropSh_lk : ∀ {R : List (Nat × Ent)} {k : Nat} {e : Ent}, lk (dropSh R) k = some e → lk R k = some e ∧ ∀ t r, e = .shared t r → t = .old
  | [], _, _, h => by simp [dropSh, lk] at h
  | (j, e) :: l, k, e', h => by
    have keep : ∀ e0, (∀ t r, e0 = Ent.shared t r → t = .old) → lk ((j, e0) :: dropSh l) k = some e' → lk ((j, e0) :: l) k = some e' ∧ ∀ t r, e' = .shared t r → t = .old := by
      intro e0 h0 hk
      simp only [lk] at hk ⊢
      split at hk
      · injection hk with hk; subst hk; exact ⟨rfl, h0⟩
      · exact dropSh_lk hk
    have dropped : lk (dropKey (dropSh l) j) k = some e' → lk ((j, e) :: l) k = some e' ∧ ∀ t r, e' = .shared t r → t = .old := by
      intro hk
      rw [lk_dropKey] at hk
      split at hk
      · simp at hk
      · rename_i hne
        have hb : Nat.beq j k = false := by
          cases hb : Nat.beq j k with
          | false => rfl
          | true => exact absurd (Nat.eq_of_beq_eq_true hb).symm hne
        simp only [lk, hb]
        exact dropSh_lk hk
    cases e with
    | own r => exact keep _ (fun t r h => by simp at h) h
    | part lo r => exact keep _ (fun t r h => by simp at h) h
    | shared t r =>
      cases t with
      | old => exact keep _ (fun t r h => by injection h with h1 h2; exact h1.symm) h
      | new => exact dropped h
      | any => exact dropped h
/-- What an entry is, read again. -/
def EntAgain (τ : Tys) (E : Env) (w w' : World) (k : Nat) (e e' : Ent) : Prop :=
  (∃ r, e = .shared .old r ∧ e' = .shared .old r) ∨ (∃ r r', e = .own r ∧ e' = .own r' ∧ r'.kd = r.kd ∧ r'.len = r.len ∧ (OwnD τ E w k r.len r → OwnD τ E w' k r'.len r')) ∨
  ∃ lo r r', e = .part lo r ∧ e' = .part lo r' ∧ r'.kd = r.kd ∧ r'.len = r.len ∧ (OwnD τ E w k lo r → OwnD τ E w' k lo r')
theorem own_flat (h : Hav g0 w w') (hg : ¬ E.ow g0) {k lo : Nat} {r : Rw} (hf : r.flat = true) (hd : OwnD τ E w k lo r) : OwnD τ E w' k lo r := by
  obtain ⟨ho, hfit, us, hrow, hc⟩ := hd
  refine ⟨ho, hfit, us, ⟨hrow.1, ?_⟩, fun i j x hi hx => ?_⟩
  · rcases hrow.2 with h4 | ⟨g, cap, cur, hv, hb, hheap, h5⟩
    · exact .inl h4
    · refine .inr ⟨g, cap, cur, hv, hb, ?_, h5⟩
      rw [h.out g (fun e => hg (e ▸ ho g (by rw [hv]; rfl)))]
      exact hheap
  · obtain ⟨u, hu, hd⟩ := hc i j x hi hx
    exact ⟨u, hu, (flat_sc hf hx _ _ _ _ u).1 hd⟩
theorem mem_dropKey {α : Type} {l : List (Nat × α)} {k : Nat} {p : Nat × α} (h : p ∈ dropKey l k) : p ∈ l := by
  induction l with
  | nil => simp [dropKey] at h
  | cons q l ih =>
    obtain ⟨j, v⟩ := q
    simp only [dropKey] at h
    split at h
    · exact List.mem_cons_of_mem _ (ih h)
    · rcases List.mem_cons.1 h with rfl | h
      · exact List.mem_cons_self
      · exact List.mem_cons_of_mem _ (ih h)
theorem dropSh_mem : ∀ {R : List (Nat × Ent)} {p : Nat × Ent}, p ∈ dropSh R → ∀ t r, p.2 = .shared t r → t = .old
  | [], p, h => by simp [dropSh] at h
  | (j, e) :: l, p, h => by
    cases e with
    | own r =>
      rcases List.mem_cons.1 h with rfl | h
      · intro t r' e; simp at e
      · exact dropSh_mem h
    | part lo r =>
      rcases List.mem_cons.1 h with rfl | h
      · intro t r' e; simp at e
      · exact dropSh_mem h
    | shared t r =>
      cases t with
      | old =>
        rcases List.mem_cons.1 h with rfl | h
        · intro t r' e; injection e with e1 e2; exact e1.symm
        · exact dropSh_mem h
      | new => exact dropSh_mem (mem_dropKey h)
      | any => exact dropSh_mem (mem_dropKey h)
theorem own_again (h : Hav g0 w w') (hg : ¬ E.ow g0) (hF : ∀ t g, E.F w t g → E.F w' t g) (k lo : Nat) (r : Rw) : ∃ r' : Rw, r'.kd = r.kd ∧ r'.len = r.len ∧ (OwnD τ E w k lo r → OwnD τ E w' k lo r') := by
  by_cases hd : OwnD τ E w k lo r
  · obtain ⟨r', h1, h2, h3⟩ := hav_own h hg hF hd
    exact ⟨r', h1, h2, fun _ => h3⟩
  · exact ⟨r, rfl, rfl, fun h => absurd h hd⟩
theorem havE_use (h : Hav g0 w w') (hg : ¬ E.ow g0) (hF : ∀ t g, E.F w t g → E.F w' t g) : ∀ {R : List (Nat × Ent)} {K : List (Nat × Ent) → Prop}, havE R K → (∀ p ∈ R, ∀ t r, p.2 = Ent.shared t r → t = .old) → ∃ R', K R' ∧ (∀ k e', lk R' k = some e' → ∃ e, lk R k = some e ∧ EntAgain τ E w w' k e e')
  | [], K, hK, _ => ⟨[], hK, fun k e' h => by simp [lk] at h⟩
  | (j, e) :: l, K, hK, hold => by
    have hold' : ∀ p ∈ l, ∀ t r, p.2 = Ent.shared t r → t = .old := fun p hp => hold p (List.mem_cons_of_mem _ hp)
    have step : ∀ (e0 : Ent), EntAgain τ E w w' j e e0 → (havE l fun l' => K ((j, e0) :: l')) → ∃ R', K R' ∧ ∀ k e', lk R' k = some e' → ∃ e1, lk ((j, e) :: l) k = some e1 ∧ EntAgain τ E w w' k e1 e' := by
      intro e0 h0 h1
      obtain ⟨l', h2, h3⟩ := havE_use h hg hF h1 hold'
      refine ⟨_, h2, fun k e' hk => ?_⟩
      simp only [lk] at hk ⊢
      split at hk
      · rename_i hb
        injection hk with hk
        subst hk
        obtain rfl := Nat.eq_of_beq_eq_true hb
        exact ⟨e, rfl, h0⟩
      · exact h3 k e' hk
    cases e with
    | own r =>
      simp only [havE] at hK
      split at hK
      · rename_i hf
        exact step _ (.inr (.inl ⟨r, r, rfl, rfl, rfl, rfl, own_flat h hg hf⟩)) hK
      · obtain ⟨r', h1, h2, h3⟩ := own_again (τ := τ) h hg hF j r.len r
        exact step _ (.inr (.inl ⟨r, r', rfl, rfl, h1, h2, by rw [h2]; exact h3⟩)) (havR_use hK h1 h2)
    | part lo r =>
      simp only [havE] at hK
      obtain ⟨r', h1, h2, h3⟩ := own_again (τ := τ) h hg hF j lo r
      exact step _ (.inr (.inr ⟨lo, r, r', rfl, rfl, h1, h2, h3⟩)) (havR_use hK h1 h2)
    | shared t r =>
      simp only [havE] at hK
      obtain rfl := hold _ List.mem_cons_self t r rfl
      exact step _ (.inl ⟨r, rfl, rfl⟩) hK
/-- A value, read again. -/
theorem havV0_use (h : Hav g0 w w') (hg : E.F w .new g0) (hF : ∀ t g, E.F w t g → E.F w' t g) {R R' : List (Nat × Ent)} (hR : ∀ k e', lk R' k = some e' → ∃ e, lk R k = some e ∧ EntAgain τ E w w' k e e') {v : SV} {K : SV → Prop} (hK : havV0 v K) (u : Value) :
    ∃ v', K v' ∧ (vd0 E R w v u → vd0 E R' w' v' u) ∧ (∀ cs, v' ≠ .agg cs) ∧ (∀ cs, v' ≠ .tup cs) ∧ ∀ f a c, v' ≠ .clo f a c := by
  have old : ∀ g, E.F w .old g → g < w.heap.size → w'.heap[g]? = w.heap[g]? ∧ E.F w' .old g := fun g hgo _ => ⟨h.out g (fun e => by
    subst e
    have h1 : g < E.M := hgo.2
    have h2 : E.M ≤ g := hg.2.1
    omega), hF _ _ hgo⟩
  have junk : K .junk → ∃ v', K v' ∧ (vd0 E R w v u → vd0 E R' w' v' u) ∧ (∀ cs, v' ≠ .agg cs) ∧ (∀ cs, v' ≠ .tup cs) ∧ ∀ f a c, v' ≠ .clo f a c := fun hk => ⟨.junk, hk, fun _ => trivial, by simp, by simp, by simp⟩
  cases v with
  | int k n => exact ⟨_, hK, id, by simp, by simp, by simp⟩
  | bool b => exact ⟨_, hK, id, by simp, by simp, by simp⟩
  | lit b => exact ⟨_, hK, id, by simp, by simp, by simp⟩
  | str b => exact ⟨_, hK, id, by simp, by simp, by simp⟩
  | nilS r => exact ⟨_, hK, id, by simp, by simp, by simp⟩
  | pre t r n =>
    cases t with
    | old => exact ⟨_, hK, fun hd => by
        obtain ⟨A, c, h1, h2, h3⟩ := hd
        exact ⟨A, c, h1, h2, RowDen.mono h3 old⟩, by simp, by simp, by simp⟩
    | any => exact junk hK
    | new => exact junk hK
  | box k off => exact ⟨_, hK, id, by simp, by simp, by simp⟩
  | row t r =>
    cases t with
    | old => exact ⟨_, hK, fun hd => RowDen.mono hd old, by simp, by simp, by simp⟩
    | any => exact junk hK
    | new =>
      by_cases hd : RowDen w (E.F w .new) r u
      · obtain ⟨r', h1, h2, h3⟩ := hav_den h (hF .new) hd
        exact ⟨.row .new r', havR_use (K := fun r' => K (.row .new r')) hK h1 h2, fun _ => h3, by simp, by simp, by simp⟩
      · exact ⟨.row .new r, havR_use (K := fun r' => K (.row .new r')) hK rfl rfl, fun h => absurd h hd, by simp, by simp, by simp⟩
  | own k =>
    refine ⟨_, hK, fun hd => ?_, by simp, by simp, by simp⟩
    simp only [vd0] at hd ⊢
    cases hk : lk R' k with
    | none => trivial
    | some e' =>
      obtain ⟨e, he, ha⟩ := hR k e' hk
      rw [he] at hd
      rcases ha with ⟨r, rfl, rfl⟩ | ⟨r, r', rfl, rfl, _⟩ | ⟨lo, r, r', rfl, rfl, _⟩
      · exact RowDen.mono hd old
      · exact hd
      · exact hd
  | pt t cs =>
    cases t with
    | old =>
      refine ⟨_, hK, fun hd => ?_, by simp, by simp, by simp⟩
      obtain ⟨ad, h1, h2, h3, h4, h5⟩ := hd
      obtain ⟨he, hF'⟩ := old _ h4 h3
      refine ⟨ad, h1, h2, by rw [h.size]; exact h3, hF', fun j x hx => ?_⟩
      obtain ⟨u', hu, hd⟩ := h5 j x hx
      have hb : (ad.add j).block = ad.block := by unfold Addr.add; split <;> rfl
      exact ⟨u', cell_of_heap hu (by rw [hb]; exact he), cd2.mono hd old⟩
    | new => exact junk hK
    | any => exact junk hK
  | oel k i off =>
    refine ⟨_, hK, fun hd => ?_, by simp, by simp, by simp⟩
    simp only [vd0] at hd ⊢
    cases hk : lk R' k with
    | none => trivial
    | some e' =>
      obtain ⟨e, he, ha⟩ := hR k e' hk
      rw [he] at hd
      rcases ha with ⟨r, rfl, rfl⟩ | ⟨r, r', rfl, rfl, h1, h2, _⟩ | ⟨lo, r, r', rfl, rfl, h1, h2, _⟩
      · trivial
      · obtain ⟨g, n, c, g1, g2, g3, g4⟩ := hd
        exact ⟨g, n, c, g1, g2, by rw [h2]; exact g3, by rw [Rw.sz_of_kd h1]; exact g4⟩
      · obtain ⟨g, n, c, g1, g2, g3, g4⟩ := hd
        exact ⟨g, n, c, g1, g2, by rw [h2]; exact g3, by rw [Rw.sz_of_kd h1]; exact g4⟩
  | agg cs => exact junk hK
  | tup cs => exact junk hK
  | clo f a c => exact junk hK
  | junk => exact junk hK
theorem havV0_use1 (h : Hav g0 w w') (hg : E.F w .new g0) (hF : ∀ t g, E.F w t g → E.F w' t g) {R R' : List (Nat × Ent)} (hR : ∀ k e', lk R' k = some e' → ∃ e, lk R k = some e ∧ EntAgain τ E w w' k e e') {v : SV} {K : SV → Prop} (hK : havV0 v K) (u : Value) :
    ∃ v', K v' ∧ (vd1 E R w v u → vd1 E R' w' v' u) ∧ (∀ cs, v' ≠ .agg cs) ∧ ∀ cs, v' ≠ .tup cs := by
  obtain ⟨v', h1, h2, h3, h4, h5⟩ := havV0_use h hg hF hR hK u
  by_cases hc : ∃ f a c, v = .clo f a c
  · obtain ⟨f, a, c, rfl⟩ := hc
    exact ⟨.junk, hK, fun _ => trivial, by simp, by simp⟩
  · refine ⟨v', h1, fun hd => ?_, h3, h4⟩
    have e1 : vd0 E R w v u := by cases v <;> first | exact hd | exact absurd ⟨_, _, _, rfl⟩ hc
    have e2 := h2 e1
    cases v' <;> first | exact e2 | exact absurd rfl (h5 _ _ _)
theorem havL_use (h : Hav g0 w w') (hg : E.F w .new g0) (hF : ∀ t g, E.F w t g → E.F w' t g) {R R' : List (Nat × Ent)} (hR : ∀ k e', lk R' k = some e' → ∃ e, lk R k = some e ∧ EntAgain τ E w w' k e e') : ∀ {cs : List SV} {K : List SV → Prop} (us : List Value), havL cs K → ∃ cs', K cs' ∧ (L0 (vd1 E R w) cs us → L0 (vd1 E R' w') cs' us)
  | [], K, us, hK => ⟨[], hK, fun hd => ⟨hd.1, fun j x hx => by simp at hx⟩⟩
  | v :: l, K, [], hK => by
    obtain ⟨v', h1, _⟩ := havV0_use1 h hg hF hR hK (.bool false)
    obtain ⟨l', h2, _⟩ := havL_use h hg hF hR [] h1
    exact ⟨_, h2, fun hd => by have := hd.1; simp at this⟩
  | v :: l, K, u :: us, hK => by
    obtain ⟨v', h1, h3, _⟩ := havV0_use1 h hg hF hR hK u
    obtain ⟨l', h2, h4⟩ := havL_use h hg hF hR us h1
    refine ⟨_, h2, fun hd => ?_⟩
    obtain ⟨u', us', e, g1, g2⟩ := hd.inv_cons
    injection e with e1 e2
    subst e1 e2
    exact .cons (h3 g1) (h4 g2)
theorem hvT0_vd (h : Hav g0 w w') (hg : E.F w .new g0) (hF : ∀ t g, E.F w t g → E.F w' t g) {R R' : List (Nat × Ent)} (hR : ∀ k e', lk R' k = some e' → ∃ e, lk R k = some e ∧ EntAgain τ E w w' k e e') {v : SV} {u : Value} (hd : vd1 E R w v u) : vd1 E R' w' (hvT0 v) u := by
  by_cases hn : ∃ r, v = .row .new r
  · obtain ⟨r, rfl⟩ := hn
    trivial
  · have hK : havV0 v fun v' => v' = hvT0 v := by
      cases v with
      | row t r => cases t <;> first | rfl | exact absurd ⟨_, rfl⟩ hn
      | pt t r => cases t <;> rfl
      | pre t r n => cases t <;> rfl
      | _ => rfl
    obtain ⟨v', h1, h2, _⟩ := havV0_use1 h hg hF hR hK u
    rw [← h1]
    exact h2 hd
theorem hvL_vd (h : Hav g0 w w') (hg : E.F w .new g0) (hF : ∀ t g, E.F w t g → E.F w' t g) {R R' : List (Nat × Ent)} (hR : ∀ k e', lk R' k = some e' → ∃ e, lk R k = some e ∧ EntAgain τ E w w' k e e') : ∀ {cs : List SV} {us : List Value}, L0 (vd1 E R w) cs us → L0 (vd1 E R' w') (hvL cs) us
  | [], us, hd => ⟨hd.1, fun j x hx => by simp [hvL] at hx⟩
  | v :: l, us, hd => by
    obtain ⟨u, us', rfl, g1, g2⟩ := hd.inv_cons
    exact .cons (hvT0_vd h hg hF hR g1) (hvL_vd h hg hF hR g2)
theorem hvT_vd (h : Hav g0 w w') (hg : E.F w .new g0) (hF : ∀ t g, E.F w t g → E.F w' t g) {R R' : List (Nat × Ent)} (hR : ∀ k e', lk R' k = some e' → ∃ e, lk R k = some e ∧ EntAgain τ E w w' k e e') {v : SV} {u : Value} (hd : vd3 E R w v u) : vd3 E R' w' (hvT v) u := by
  cases v with
  | agg cs =>
    obtain ⟨us, rfl, hl⟩ := hd
    exact ⟨us, rfl, hvL_vd h hg hF hR hl⟩
  | tup cs => trivial
  | clo f a c => trivial
  | row t r =>
    have := hvT0_vd h hg hF hR (v := .row t r) (u := u) hd
    cases t <;> exact this
  | pt t cs =>
    have := hvT0_vd h hg hF hR (v := .pt t cs) (u := u) hd
    cases t <;> exact this
  | int k n => exact hvT0_vd h hg hF hR (v := .int k n) hd
  | bool b => exact hvT0_vd h hg hF hR (v := .bool b) hd
  | lit b => exact hvT0_vd h hg hF hR (v := .lit b) hd
  | str b => exact hvT0_vd h hg hF hR (v := .str b) hd
  | nilS r => exact hvT0_vd h hg hF hR (v := .nilS r) hd
  | pre t r n =>
    have := hvT0_vd h hg hF hR (v := .pre t r n) (u := u) hd
    cases t <;> exact this
  | own k => exact hvT0_vd h hg hF hR (v := .own k) hd
  | box k off => exact hvT0_vd h hg hF hR (v := .box k off) hd
  | oel k i off => exact hvT0_vd h hg hF hR (v := .oel k i off) hd
  | junk => trivial
theorem hvF_lkv : ∀ (f : List (Nat × SV)) (t : Nat), lkv (hvF f) t = hvT (lkv f t)
  | [], t => rfl
  | (k, v) :: l, t => by
    simp only [hvF, lkv]
    split
    · rfl
    · exact hvF_lkv l t
theorem hvS_get : ∀ {l : List (List (Nat × SV))} {i : Nat} {f : List (Nat × SV)}, (hvS l)[i]? = some f → ∃ f0, l[i]? = some f0 ∧ f = hvF f0
  | [], i, f, h => by simp [hvS] at h
  | g :: l, 0, f, h => by simp [hvS] at h; exact ⟨g, rfl, h.symm⟩
  | g :: l, i + 1, f, h => by simpa using hvS_get (l := l) (i := i) (by simpa [hvS] using h)
theorem havB_use (h : Hav g0 w w') (hg : E.F w .new g0) (hF : ∀ t g, E.F w t g → E.F w' t g) {R R' : List (Nat × Ent)} (hR : ∀ k e', lk R' k = some e' → ∃ e, lk R k = some e ∧ EntAgain τ E w w' k e e') (U : Nat → List Value) : ∀ {l : List (Nat × (TypeId × List SV))} {K : List (Nat × (TypeId × List SV)) → Prop}, havB l K → ∃ l', K l' ∧ ∀ k T cs', lk l' k = some (T, cs') → ∃ cs, lk l k = some (T, cs) ∧ (L0 (vd1 E R w) cs (U k) → L0 (vd1 E R' w') cs' (U k))
  | [], K, hK => ⟨[], hK, fun k T cs' hk => by simp [lk] at hk⟩
  | (j, (T, cs)) :: l, K, hK => by
    obtain ⟨cs1, h1, h2⟩ := havL_use h hg hF hR (U j) hK
    obtain ⟨l', h3, h4⟩ := havB_use h hg hF hR U h1
    refine ⟨_, h3, fun k T' cs' hk => ?_⟩
    simp only [lk] at hk ⊢
    split at hk
    · rename_i hb
      obtain rfl := Nat.eq_of_beq_eq_true hb
      injection hk with hk
      injection hk with e1 e2
      subst e1 e2
      exact ⟨cs, rfl, h2⟩
    · exact h4 k T' cs' hk
/-- Behind such a call, whatever its rows now read aS. -/
theorem havSt_use {s : St} {bs : List (Array Value)} (hd : Den τ w0 E s bs w) (h : Hav g0 w w') (hg : E.F w .new g0) {K : St → Prop} (hK : havSt s K) : ∃ s', K s' ∧ Den τ w0 E s' bs w' := by
  obtain ⟨fr, stk, bx, rw', dep⟩ := s
  have hF : ∀ t g, E.F w t g → E.F w' t g := by
    rintro t g ⟨h1, h2⟩
    refine ⟨h1, ?_⟩
    cases t with
    | old => exact h2
    | new => exact ⟨h2.1, h.unfz h2.2⟩
    | any => trivial
  obtain ⟨R', hK1, hR'⟩ := havE_use (τ := τ) h hg.1 hF hK (fun p hp => dropSh_mem hp)
  have hR : ∀ k e', lk R' k = some e' → ∃ e, lk rw' k = some e ∧ EntAgain τ E w w' k e e' := fun k e' hk => by
    obtain ⟨e, h1, h2⟩ := hR' k e' hk
    exact ⟨e, (dropSh_lk h1).1, h2⟩
  have hK3 := hK1
  rw [forceF_eq] at hK3
  obtain ⟨U, hU⟩ : ∃ U : Nat → List Value, ∀ k T cs, lk bx k = some (T, cs) → w.heap[E.bs k]? = some (.cells (U k).toArray T (0, 0)) ∧ L0 (vd1 E rw' w) cs (U k) := by
    have hc : ∀ k, ∃ us : List Value, ∀ T cs, lk bx k = some (T, cs) → w.heap[E.bs k]? = some (.cells us.toArray T (0, 0)) ∧ L0 (vd1 E rw' w) cs us := by
      intro k
      cases hk : lk bx k with
      | none => exact ⟨[], fun T cs h => by simp at h⟩
      | some p =>
        obtain ⟨T, cs⟩ := p
        obtain ⟨_, us, h1, h2⟩ := hd.box k T cs hk
        exact ⟨us, fun T' cs' h' => by injection h' with h'; injection h' with e1 e2; subst e1 e2; exact ⟨h1, h2⟩⟩
    exact ⟨fun k => Classical.choose (hc k), fun k => Classical.choose_spec (hc k)⟩
  obtain ⟨bx', hK4, hbx⟩ := havB_use h hg hF hR U hK3
  have hM : E.M ≤ g0 := hg.2.1
  have mine : ∀ k e' m, lk R' k = some e' → e'.mine = some m → ∃ e m', lk rw' k = some e ∧ e.mine = some m' ∧ (OwnD τ E w k m'.1 m'.2 → OwnD τ E w' k m.1 m.2) := by
    intro k e' m hk hm
    obtain ⟨e, he, ha⟩ := hR k e' hk
    rcases ha with ⟨r, rfl, rfl⟩ | ⟨r, r', rfl, rfl, _, _, h5⟩ | ⟨lo, r, r', rfl, rfl, _, _, h5⟩
    · simp [Ent.mine] at hm
    · simp [Ent.mine] at hm
      subst hm
      exact ⟨_, _, he, rfl, h5⟩
    · simp [Ent.mine] at hm
      subst hm
      exact ⟨_, _, he, rfl, h5⟩
  refine ⟨_, hK4, ⟨hd.below.trans (h.below.mono (Nat.le_trans hd.bM hM)), hd.bM, by rw [h.size]; exact hd.Mh, fun g hgo => ⟨(hd.owb g hgo).1, by rw [h.size]; exact (hd.owb g hgo).2⟩, ?_, ?_, ?_, ?_, ?_, ?_⟩⟩
  · intro i f hf
    cases i with
    | zero =>
      simp at hf
      subst hf
      obtain ⟨b0, hb0, hf0⟩ := hd.fr 0 fr (by simp)
      refine ⟨b0, hb0, fun t => ?_⟩
      rw [hvF_lkv]
      exact hvT_vd h hg hF hR (hf0 t)
    | succ i =>
      obtain ⟨f0, h1, rfl⟩ := hvS_get (l := stk) (i := i) (by simpa using hf)
      obtain ⟨a, ha, hfa⟩ := hd.fr (i + 1) f0 (by simpa using h1)
      refine ⟨a, ha, fun t => ?_⟩
      rw [hvF_lkv]
      exact hvT_vd h hg hF hR (hfa t)
  · intro k T cs' hk
    obtain ⟨cs, h1, h2⟩ := hbx k T cs' hk
    obtain ⟨h3, h4⟩ := hU k T cs h1
    have ho := (hd.box k T cs h1).ow
    exact ⟨ho, U k, by rw [h.out _ (fun e => hg.1 (e ▸ ho))]; exact h3, h2 h4⟩
  · intro k e' lo r hk hm
    obtain ⟨e, m', h1, h2, h3⟩ := mine k e' _ hk hm
    exact h3 (hd.own k e m'.1 m'.2 h1 h2)
  · rintro k k' ⟨T, cs⟩ ⟨T', cs'⟩ hk hk' hne
    obtain ⟨_, h1, _⟩ := hbx k T cs hk
    obtain ⟨_, h2, _⟩ := hbx k' T' cs' hk'
    exact hd.bb k k' _ _ h1 h2 hne
  · rintro k k' ⟨T, cs⟩ e m hk hk' hm
    obtain ⟨_, h1, _⟩ := hbx k T cs hk
    obtain ⟨e0, m', h2, h3, _⟩ := mine k' e m hk' hm
    exact hd.br k k' _ e0 m' h1 h2 h3
  · intro k k' e e' m m' g hk hk' hm hm' hne hgo
    obtain ⟨e0, m0, h2, h3, _⟩ := mine k e m hk hm
    obtain ⟨e1, m1, h4, h5, _⟩ := mine k' e' m' hk' hm'
    exact hd.rr k k' e0 e1 m0 m1 g h2 h4 h3 h5 hne hgo
end
/-! ### 4. Calls that write over a row -/
/-- What is known of such a function at one type: its walk. -/
structure SpoilW (P : Program) (f : FuncId) (sz off : Nat) : Prop where
  ent : Enters P f
  run : ∀ (A : Option Addr) (n c : Nat) (w : World), n ≤ 140737488355328 → (0 < n → ∃ ad, A = some ad ∧ ad.spot = none ∧ unfz w ad.block ∧ ∀ i, i < n → ∃ z, w.cell? (ad.add (i * sz + off)) = some (.int .i64 z)) →
    Calls P f #[.slice A n c] w fun x w' => x = .returned (.tuple #[]) ∧ ((n = 0 ∧ w' = w) ∨ (0 < n ∧ ∃ ad, A = some ad ∧ Hav ad.block w w'))
/-- Of that kind of row one cell in each element is a whole number. -/
def offOk (kd off : Nat) : Prop := ∀ (r : Rw) (i : Nat), r.kd = kd → ∃ z, (r.cell .any i)[off]? = some (.int .i64 z)
def spoilT (kd : Nat) : CallT := fun args s K => match args, s with
  | [.nilS _], s => K (.tup []) s
  | [.row .new r], s => match Nat.beq r.kd kd with
    | true => havSt s fun s' => K (.tup []) s'
    | false => False
  | [.own k], ⟨fr, stk, bx, rw, dep⟩ => match lk (demote1 rw k) k with
    | some (.shared .new r) => match Nat.beq r.kd kd with
      | true => havSt ⟨fr, stk, bx, demote1 rw k, dep⟩ fun s' => K (.tup []) s'
      | false => False
    | _ => False
  | _, _ => False
section
variable {P : Program} {τ : Tys}
theorem spoil_core {f kd sz off : Nat} (hW : SpoilW P f sz off) (hsz : kdSz kd = sz) (hoff : offOk kd off) {w0 : World} {E : Env} {s : St} {aS : List (Array Value)} {w : World} (hd : Den τ w0 E s aS w) {r : Rw} (hk : r.kd = kd) {v : Value} (hv : RowDen w (E.F w .new) r v) {K : St → Prop} (hK : havSt s K) :
    Calls P f #[v] w fun x w' => x = .returned (.tuple #[]) ∧ ∃ s', K s' ∧ Den τ w0 E s' aS w' := by
  obtain ⟨h0, A, c, rfl, hn, hc⟩ := hv
  have hb := bts_pos r
  have hlen : r.len ≤ 140737488355328 := by
    have : r.len * 1 ≤ r.len * r.bts := Nat.mul_le_mul_left _ hb
    omega
  have hrs : r.sz = sz := by rw [← hsz]; unfold Rw.sz; rw [hk]
  have hcalls := hW.run A r.len c w hlen (fun hp => by
    obtain ⟨ad, hA, hs, hF, hcell⟩ := hc hp
    refine ⟨ad, hA, hs, hF.2.2, fun i hi => ?_⟩
    obtain ⟨z, hz⟩ := hoff r i hk
    obtain ⟨u, hu, hd⟩ := hcell i off _ hi hz
    obtain rfl : u = .int .i64 z := hd
    exact ⟨z, by rw [← hrs]; exact hu⟩)
  refine hcalls.mono ?_
  rintro x w' ⟨rfl, hh⟩
  refine ⟨rfl, ?_⟩
  rcases hh with ⟨hn0, rfl⟩ | ⟨hp, ad, rfl, hH⟩
  · refine havSt_use hd (Hav.refl w'.heap.size w') ⟨fun ho => absurd (hd.owb _ ho).2 (Nat.lt_irrefl _), hd.Mh, fun c T lo hi hc => ?_⟩ hK
    rw [Array.getElem?_eq_none (Nat.le_refl _)] at hc
    simp at hc
  · obtain ⟨ad', hA, hs, hF, _⟩ := hc hp
    injection hA with hA
    subst hA
    exact havSt_use hd hH hF hK
theorem spoil_tr {f kd sz off : Nat} (hW : SpoilW P f sz off) (hsz : kdSz kd = sz) (hoff : offOk kd off) : TrKnown P τ f (spoilT kd) := by
  refine ⟨hW.ent, ?_⟩
  intro w0 E s aS w args vals K hd hargs hT
  have unit : ∀ (E : Env) (R : List (Nat × Ent)) (w : World), vd3 E R w (.tup []) (.tuple #[]) := fun E R w => ⟨[], rfl, rfl, fun j x hx => by simp at hx⟩
  unfold spoilT at hT
  split at hT
  · obtain ⟨v, vs, rfl, h1, h2⟩ := hargs.inv_cons
    obtain rfl := h2.inv_nil
    obtain ⟨rfl, _⟩ : v = .slice none 0 0 ∧ _ := h1
    refine (hW.run none 0 0 w (by omega) (fun h => absurd h (Nat.lt_irrefl _))).mono ?_
    rintro x w' ⟨rfl, hh⟩
    rcases hh with ⟨_, rfl⟩ | ⟨hp, _⟩
    · exact ⟨_, _, _, E, rfl, hT, hd, rfl, Nat.le_refl _, unit _ _ _⟩
    · exact absurd hp (Nat.lt_irrefl _)
  · obtain ⟨v, vs, rfl, h1, h2⟩ := hargs.inv_cons
    obtain rfl := h2.inv_nil
    split at hT
    · rename_i hk
      refine (spoil_core hW hsz hoff hd (Nat.eq_of_beq_eq_true hk) h1 hT).mono ?_
      rintro x w' ⟨rfl, s', h3, h4⟩
      exact ⟨_, _, s', E, rfl, h3, h4, rfl, Nat.le_refl _, unit _ _ _⟩
    · exact hT.elim
  · rename_i k fr stk bx rw' dep
    obtain ⟨v, vs, rfl, h1, h2⟩ := hargs.inv_cons
    obtain rfl := h2.inv_nil
    obtain ⟨E', g1, g2, _, _, _, hd', _, g8⟩ := hd.demoteL [.own k]
    have h3 := g8 _ _ h1
    have e1 : demoteL [.own k] rw' = demote1 rw' k := rfl
    rw [e1] at hd' h3
    split at hT
    · rename_i r hr
      split at hT
      · rename_i hk
        have h4 : RowDen w (E'.F w .new) r v := by
          simp only [vd3, vd2, vd1, vd0] at h3
          rw [hr] at h3
          exact h3
        refine (spoil_core hW hsz hoff hd' (Nat.eq_of_beq_eq_true hk) h4 hT).mono ?_
        rintro x w' ⟨rfl, s', h5, h6⟩
        exact ⟨_, _, s', E', rfl, h5, h6, g1, by rw [g2]; exact Nat.le_refl _, unit _ _ _⟩
      · exact hT.elim
    · exact hT.elim
  · exact hT.elim
end
end Go.Proofs.YtmhieddhmebfhaaGreat

/- Rows of whole numbers, written over: the walk. -/
namespace Go.Proofs.YtmhieddhmebfhaaGreat
open Go.RowKit Go.Sort
def vIntS : Value → Int
  | .int _ q => q
  | _ => 0
theorem Hav.int {g0 : Nat} {w wr : World} (h : Hav g0 w wr) {a : Addr} {z : Int} (hz : w.cell? a = some (.int .i64 z)) : ∃ z', wr.cell? a = some (.int .i64 z') := by
  rcases h.cell a with e | ⟨_, z', _, e⟩
  · exact ⟨z, by rw [e]; exact hz⟩
  · exact ⟨z', e⟩
set_option maxHeartbeats 1000000 in
theorem w_SpoilInts : SpoilW Tryz.prog 48 1 0 := by
  refine ⟨fnOk_enters (fn := Tryz.f48) (D := []) (by kernel_rfl) (by kernel_rfl), fun A n c w hn hA => ?_⟩
  go_enter Tryz.func48, Tryz.ntmps48
  go_wp2
  go_loopw [2] (fun vi wr => ∃ i : Nat, vi = .int .i64 i ∧ i ≤ n ∧ ((n = 0 ∧ wr = w) ∨ (0 < n ∧ ∃ ad, A = some ad ∧ Hav ad.block w wr))) (fun vi _ => n - (vIntS vi).toNat)
  case atStart =>
    refine ⟨0, rfl, by omega, ?_⟩
    rcases Nat.eq_zero_or_pos n with h | h
    · exact .inl ⟨h, rfl⟩
    · obtain ⟨ad, h1, _⟩ := hA h
      exact .inr ⟨h, ad, h1, Hav.refl _ _⟩
  case round =>
    obtain ⟨i, rfl, hin, hwr⟩ := hrel
    by_cases hlt : i < n
    · obtain ⟨ad, rfl, hs, hu, hcell⟩ := hA (by omega)
      have hH : Hav ad.block w wr := by
        rcases hwr with ⟨h, _⟩ | ⟨_, ad', e, h⟩
        · omega
        · injection e with e; subst e; exact h
      obtain ⟨z0, hz0⟩ := hcell i hlt
      obtain ⟨z, hz⟩ := hH.int hz0
      have hb : (ad.add (i * 1 + 0)).block = ad.block := by unfold Addr.add; split <;> rfl
      have hsp : (ad.add (i * 1 + 0)).spot = none := by unfold Addr.add; split <;> simp [hs]
      have hf : wr.frozen? (ad.add (i * 1 + 0)) = false := unfz_frozen (by rw [hb]; exact hH.unfz hu) hz
      rw [show i * 1 + 0 = i by omega] at hz hf hb hsp
      have HS : Hid (∀ z', Hav ad.block w (wr.setCell (ad.add i) (.int .i64 z'))) := fun z' => hH.store hb hsp hz
      clear hcell hH hA hwr hu hz0
      go_wp2
      go_roundw
      case rel => exact ⟨i + 1, rfl, hlt, .inr ⟨by omega, ad, rfl, HS.out _⟩⟩
      case measure => simp [vIntS]; omega
    · have HW : Hid ((n = 0 ∧ wr = w) ∨ (0 < n ∧ ∃ ad, A = some ad ∧ Hav ad.block w wr)) := hwr
      clear hA hwr
      go_wp2
      go_end0
      exact ⟨rfl, HW.out⟩
theorem t_SpoilInts : TrKnown Tryz.prog tau 48 (spoilT 0) := spoil_tr w_SpoilInts rfl fun r i hr => by cases r <;> simp [Rw.kd] at hr; exact ⟨_, rfl⟩
end Go.Proofs.YtmhieddhmebfhaaGreat

/- Rows of structs, written over: the walk. -/
namespace Go.Proofs.YtmhieddhmebfhaaGreat
open Go.RowKit Go.Sort
set_option maxHeartbeats 1000000 in
theorem w_SpoilPeers : SpoilW Tryz.prog 90 2 1 := by
  refine ⟨fnOk_enters (fn := Tryz.f90) (D := []) (by kernel_rfl) (by kernel_rfl), fun A n c w hn hA => ?_⟩
  go_enter Tryz.func90, Tryz.ntmps90
  go_wp2
  go_loopw [2] (fun vi wr => ∃ i : Nat, vi = .int .i64 i ∧ i ≤ n ∧ ((n = 0 ∧ wr = w) ∨ (0 < n ∧ ∃ ad, A = some ad ∧ Hav ad.block w wr))) (fun vi _ => n - (vIntS vi).toNat)
  case atStart =>
    refine ⟨0, rfl, by omega, ?_⟩
    rcases Nat.eq_zero_or_pos n with h | h
    · exact .inl ⟨h, rfl⟩
    · obtain ⟨ad, h1, _⟩ := hA h
      exact .inr ⟨h, ad, h1, Hav.refl _ _⟩
  case round =>
    obtain ⟨i, rfl, hin, hwr⟩ := hrel
    by_cases hlt : i < n
    · obtain ⟨ad, rfl, hs, hu, hcell⟩ := hA (by omega)
      have hH : Hav ad.block w wr := by
        rcases hwr with ⟨h, _⟩ | ⟨_, ad', e, h⟩
        · omega
        · injection e with e; subst e; exact h
      obtain ⟨z0, hz0⟩ := hcell i hlt
      obtain ⟨z, hz⟩ := hH.int hz0
      obtain ⟨blk, o, sp⟩ := ad
      obtain rfl : sp = none := hs
      have ea : (⟨blk, o, none⟩ : Addr).add (i * 2 + 1) = ⟨blk, o + i * 2 + 1, none⟩ := by unfold Addr.add; split <;> simp_all [Nat.add_assoc]
      rw [ea] at hz
      have hf : wr.frozen? ⟨blk, o + i * 2 + 1, none⟩ = false := unfz_frozen (hH.unfz hu) hz
      have HS : Hid (∀ z', Hav blk w (wr.setCell ⟨blk, o + i * 2 + 1, none⟩ (.int .i64 z'))) := fun z' => hH.store (a := ⟨blk, o + i * 2 + 1, none⟩) rfl rfl hz
      clear hcell hH hA hwr hu hz0 ea
      go_wp2
      go_roundw
      case rel => exact ⟨i + 1, rfl, hlt, .inr ⟨by omega, _, rfl, HS.out _⟩⟩
      case measure => simp [vIntS]; omega
    · have HW : Hid ((n = 0 ∧ wr = w) ∨ (0 < n ∧ ∃ ad, A = some ad ∧ Hav ad.block w wr)) := hwr
      clear hA hwr
      go_wp2
      go_end0
      exact ⟨rfl, HW.out⟩
theorem t_SpoilPeers : TrKnown Tryz.prog tau 90 (spoilT 3) := spoil_tr w_SpoilPeers rfl fun r i hr => by cases r <;> simp [Rw.kd] at hr; exact ⟨_, rfl⟩
end Go.Proofs.YtmhieddhmebfhaaGreat

/- Chapter 11: any view. -/
namespace Go.Proofs.YtmhieddhmebfhaaGreat
open Go.RowKit
set_option maxRecDepth 20000
theorem k_CopyView : Known Tryz.prog tau 31 (S1 dView fun v => .ok (.agg [.int .i64 v.id, .own 0, .own 1]) [.peers v.peers, .ints v.passive]) := by
  refine known1 hmix tau_ok ctx_nil (fn := Tryz.f31) (by kernel_rfl) [] (by kernel_rfl) _ _ fun v hfit => ⟨rfl, [], ?_⟩
  have hp : v.peers.length * 16 ≤ 140737488355328 := hfit.1.2.1
  have hp2 : v.passive.length * 8 ≤ 140737488355328 := hfit.1.2.2.1
  clear hfit
  (repeat' (first | ((with_reducible refine BdI ?_); (first | ((with_reducible refine SqI ?_ (fun Kv hN hX hR => ?_)); (next => exact rfl)) | ((with_reducible refine JnI ?_ ?_); (next => exact rfl)) | (conv => whnf))) | (with_reducible first | refine BdS (fun Kv hN hX hR => ?_) | refine Stop.mk ?_ | refine Join.mk ⟨fun Kv hN hX hR => ?_, ?_⟩ | refine DrawJ.each ?_ | exact SubJ.self _) | with_reducible refine SubJ.of ?_ | (with_reducible first | refine FlS (fun Kf hF => ?_) | refine FlN ?_ | refine NdS (fun Kg hG => ?_) | (refine hF _ _ ?_; clear hF; clear Kf) | (refine hG _ _ _ _ ?_; clear hG; clear Kg)) | ((with_reducible refine SqI ?_ (fun Kv hN hX hR => ?_)); (next => exact rfl)) | ((with_reducible refine JnI ?_ ?_); (next => exact rfl)) | ((with_reducible first | refine hN _ ?_ | refine hX _ _ ?_ | refine hR _ ?_); (try (clear hG; clear Kg)); clear hN hX hR; clear Kv) | ((conv => whnf); first | (with_reducible first | rfl | exact True.intro | intro _ | refine And.intro ?_ ?_) | ((with_reducible first | refine hN _ ?_ | refine hX _ _ ?_ | refine hR _ ?_); (try (clear hG; clear Kg)); clear hN hX hR; clear Kv) | (with_reducible first | refine BdS (fun Kv hN hX hR => ?_) | refine Stop.mk ?_ | refine Join.mk ⟨fun Kv hN hX hR => ?_, ?_⟩ | refine DrawJ.each ?_ | exact SubJ.self _) | with_reducible refine SubJ.of ?_ | (with_reducible first | refine FlS (fun Kf hF => ?_) | refine FlN ?_ | refine NdS (fun Kg hG => ?_) | (refine hF _ _ ?_; clear hF; clear Kf) | (refine hG _ _ _ _ ?_; clear hG; clear Kg))))); all_goals (conv => whnf); all_goals (repeat ((try (clear hG; clear Kg)); clear hN hX hR; clear Kv))
  all_goals first
    | (refine Ob.mk ?_
       simp only [Rw.len, Rw.bts, Rw.kd, kdBytes, List.length_nil]
       omega)
    | rfl
    | trace_state
theorem t_SpoilView : TrKnown Tryz.prog tau 45 (inlT tau (addTr 90 (spoilT 3) (addTr 48 (spoilT 0) (mkCtx []))) [] [] Tryz.f45) :=
  inl_ok hmix tau_ok (ctx_tr t_SpoilPeers (ctx_tr t_SpoilInts ctx_nil)) (by kernel_rfl) [] (by kernel_rfl) []
end Go.Proofs.YtmhieddhmebfhaaGreat

/- Contracts: the laws' own small functions, of messages. -/
namespace Go.Proofs.YtmhieddhmebfhaaGreat
open Go.RowKit
set_option maxRecDepth 20000

theorem k_SameMsg : Known Tryz.prog tau 30 (S2 dMsg dMsg fun a b => okB (decide (a = b))) := by
  refine known2 hmix tau_ok (ctx_cons k_SameInts ctx_nil) (fn := Tryz.f30) (by kernel_rfl) [] (by kernel_rfl) _ _ _ fun x y hfit => ⟨rfl, [], ?_⟩
  clear hfit
  obtain ⟨kind, src, dst, ids, key, ⟨ik, ⟨ic, iw⟩, iv, ig⟩, has⟩ := x
  obtain ⟨kind', src', dst', ids', key', ⟨ik', ⟨ic', iw'⟩, iv', ig'⟩, has'⟩ := y
  (repeat' (first | ((with_reducible refine BdI ?_); (first | ((with_reducible refine SqI ?_ (fun Kv hN hX hR => ?_)); (next => exact rfl)) | ((with_reducible refine JnI ?_ ?_); (next => exact rfl)) | (conv => whnf))) | (with_reducible first | refine BdS (fun Kv hN hX hR => ?_) | refine Stop.mk ?_ | refine Join.mk ⟨fun Kv hN hX hR => ?_, ?_⟩ | refine DrawJ.each ?_ | exact SubJ.self _) | with_reducible refine SubJ.of ?_ | (with_reducible first | refine FlS (fun Kf hF => ?_) | refine FlN ?_ | refine NdS (fun Kg hG => ?_) | (refine hF _ _ ?_; clear hF; clear Kf) | (refine hG _ _ _ _ ?_; clear hG; clear Kg)) | ((with_reducible refine SqI ?_ (fun Kv hN hX hR => ?_)); (next => exact rfl)) | ((with_reducible refine JnI ?_ ?_); (next => exact rfl)) | ((with_reducible first | refine hN _ ?_ | refine hX _ _ ?_ | refine hR _ ?_); (try (clear hG; clear Kg)); clear hN hX hR; clear Kv) | ((conv => whnf); first | (with_reducible first | rfl | exact True.intro | intro _ | refine And.intro ?_ ?_) | ((with_reducible first | refine hN _ ?_ | refine hX _ _ ?_ | refine hR _ ?_); (try (clear hG; clear Kg)); clear hN hX hR; clear Kv) | (with_reducible first | refine BdS (fun Kv hN hX hR => ?_) | refine Stop.mk ?_ | refine Join.mk ⟨fun Kv hN hX hR => ?_, ?_⟩ | refine DrawJ.each ?_ | exact SubJ.self _) | with_reducible refine SubJ.of ?_ | (with_reducible first | refine FlS (fun Kf hF => ?_) | refine FlN ?_ | refine NdS (fun Kg hG => ?_) | (refine hF _ _ ?_; clear hF; clear Kf) | (refine hG _ _ _ _ ?_; clear hG; clear Kg))))); all_goals (conv => whnf); all_goals (repeat ((try (clear hG; clear Kg)); clear hN hX hR; clear Kv))
  all_goals (try simp_all)
  all_goals (cases has <;> cases has' <;> rfl)
end Go.Proofs.YtmhieddhmebfhaaGreat

/- Chapter 12: the laws' functions. -/
namespace Go.Proofs.YtmhieddhmebfhaaGreat
open Go.RowKit

end Go.Proofs.YtmhieddhmebfhaaGreat

/- Chapter 12: the laws' functions, on. -/
namespace Go.Proofs.YtmhieddhmebfhaaGreat
open Go.RowKit

end Go.Proofs.YtmhieddhmebfhaaGreat

/- slices.Clone at one type: its walk. -/
namespace Go.Proofs.YtmhieddhmebfhaaGreat
open Go.RowKit
end Go.Proofs.YtmhieddhmebfhaaGreat

/- slices.Delete at one type: its walk. -/
namespace Go.Proofs.YtmhieddhmebfhaaGreat
open Go.RowKit Go.Sort
end Go.Proofs.YtmhieddhmebfhaaGreat

/- Contracts: queues: may they be. -/
namespace Go.Proofs.YtmhieddhmebfhaaGreat
open Go.RowKit
set_option maxRecDepth 20000

end Go.Proofs.YtmhieddhmebfhaaGreat

/- Contracts: queues: copies. -/
namespace Go.Proofs.YtmhieddhmebfhaaGreat
open Go.RowKit
set_option maxRecDepth 20000

end Go.Proofs.YtmhieddhmebfhaaGreat

/- Contracts: queues: add, take. -/
namespace Go.Proofs.YtmhieddhmebfhaaGreat
open Go.RowKit
set_option maxRecDepth 20000

theorem k_SameMsgs : Known Tryz.prog tau 11 (S2 dMsgs dMsgs fun a b => okB (decide (a = b))) := by
  refine known2 hmix tau_ok (ctx_cons k_SameMsg ctx_nil) (fn := Tryz.f11) (by kernel_rfl) [(6, [(0, 0), (1, 0), (2, 3), (3, 4), (4, 0), (5, 0), (6, 48), (7, 64), (8, 136), (9, 256)])] (by kernel_rfl) _ _ _ fun xs ys hfit => ⟨rfl,
    [(4, invN [4, 5, 11, 12, 13, 14, 15, 16, 17, 18, 19, 20, 21, 22, 23, 24, 25, 26] (fun i => i ≤ xs.length ∧ ∀ j, j < i → xs.getD j default = ys.getD j default) (fun i => withS [(5, .int .i64 i)]) (fun i => xs.length - i))], ?_⟩
  have hlen : xs.length * 104 ≤ 140737488355328 := hfit.1.1
  clear hfit
  (repeat' (first | ((with_reducible refine BdI ?_); (first | ((with_reducible refine SqI ?_ (fun Kv hN hX hR => ?_)); (next => exact rfl)) | ((with_reducible refine JnI ?_ ?_); (next => exact rfl)) | (conv => whnf))) | (with_reducible first | refine BdS (fun Kv hN hX hR => ?_) | refine Stop.mk ?_ | refine Join.mk ⟨fun Kv hN hX hR => ?_, ?_⟩ | refine DrawJ.each ?_ | exact SubJ.self _) | with_reducible refine SubJ.of ?_ | (with_reducible first | refine FlS (fun Kf hF => ?_) | refine FlN ?_ | refine NdS (fun Kg hG => ?_) | (refine hF _ _ ?_; clear hF; clear Kf) | (refine hG _ _ _ _ ?_; clear hG; clear Kg)) | ((with_reducible refine SqI ?_ (fun Kv hN hX hR => ?_)); (next => exact rfl)) | ((with_reducible refine JnI ?_ ?_); (next => exact rfl)) | ((with_reducible first | refine hN _ ?_ | refine hX _ _ ?_ | refine hR _ ?_); (try (clear hG; clear Kg)); clear hN hX hR; clear Kv) | ((conv => whnf); first | (with_reducible first | rfl | exact True.intro | refine (fun (_ : (_ : Prop)) => ?_) | refine And.intro ?_ ?_) | ((with_reducible first | refine hN _ ?_ | refine hX _ _ ?_ | refine hR _ ?_); (try (clear hG; clear Kg)); clear hN hX hR; clear Kv) | (with_reducible first | refine BdS (fun Kv hN hX hR => ?_) | refine Stop.mk ?_ | refine Join.mk ⟨fun Kv hN hX hR => ?_, ?_⟩ | refine DrawJ.each ?_ | exact SubJ.self _) | with_reducible refine SubJ.of ?_ | (with_reducible first | refine FlS (fun Kf hF => ?_) | refine FlN ?_ | refine NdS (fun Kg hG => ?_) | (refine hF _ _ ?_; clear hF; clear Kf) | (refine hG _ _ _ _ ?_; clear hG; clear Kg))))); all_goals (conv => whnf); all_goals (repeat ((try (clear hG; clear Kg)); clear hN hX hR; clear Kv))
  all_goals first
    | (have h := of_decide_eq_false (nf (by with_reducible assumption))
       exact (decide_eq_false (fun e => h (by rw [e]))).symm)
    | (refine ⟨0, ⟨by omega, by intros; omega⟩, ?_⟩
       (repeat' (first | ((with_reducible refine BdI ?_); (first | ((with_reducible refine SqI ?_ (fun Kv hN hX hR => ?_)); (next => exact rfl)) | ((with_reducible refine JnI ?_ ?_); (next => exact rfl)) | (conv => whnf))) | (with_reducible first | refine BdS (fun Kv hN hX hR => ?_) | refine Stop.mk ?_ | refine Join.mk ⟨fun Kv hN hX hR => ?_, ?_⟩ | refine DrawJ.each ?_ | exact SubJ.self _) | with_reducible refine SubJ.of ?_ | (with_reducible first | refine FlS (fun Kf hF => ?_) | refine FlN ?_ | refine NdS (fun Kg hG => ?_) | (refine hF _ _ ?_; clear hF; clear Kf) | (refine hG _ _ _ _ ?_; clear hG; clear Kg)) | ((with_reducible refine SqI ?_ (fun Kv hN hX hR => ?_)); (next => exact rfl)) | ((with_reducible refine JnI ?_ ?_); (next => exact rfl)) | ((with_reducible first | refine hN _ ?_ | refine hX _ _ ?_ | refine hR _ ?_); (try (clear hG; clear Kg)); clear hN hX hR; clear Kv) | ((conv => whnf); first | (with_reducible first | rfl | exact True.intro | intro _ | refine And.intro ?_ ?_) | ((with_reducible first | refine hN _ ?_ | refine hX _ _ ?_ | refine hR _ ?_); (try (clear hG; clear Kg)); clear hN hX hR; clear Kv) | (with_reducible first | refine BdS (fun Kv hN hX hR => ?_) | refine Stop.mk ?_ | refine Join.mk ⟨fun Kv hN hX hR => ?_, ?_⟩ | refine DrawJ.each ?_ | exact SubJ.self _) | with_reducible refine SubJ.of ?_ | (with_reducible first | refine FlS (fun Kf hF => ?_) | refine FlN ?_ | refine NdS (fun Kg hG => ?_) | (refine hF _ _ ?_; clear hF; clear Kf) | (refine hG _ _ _ _ ?_; clear hG; clear Kg))))); all_goals (conv => whnf); all_goals (repeat ((try (clear hG; clear Kg)); clear hN hX hR; clear Kv))
       all_goals rfl)
    | (with_reducible intro i hi
       have hl : (xs.length : Int) = ys.length := of_decide_eq_true (nt (by with_reducible assumption))
       (repeat' (first | ((with_reducible refine BdI ?_); (first | ((with_reducible refine SqI ?_ (fun Kv hN hX hR => ?_)); (next => exact rfl)) | ((with_reducible refine JnI ?_ ?_); (next => exact rfl)) | (conv => whnf))) | (with_reducible first | refine BdS (fun Kv hN hX hR => ?_) | refine Stop.mk ?_ | refine Join.mk ⟨fun Kv hN hX hR => ?_, ?_⟩ | refine DrawJ.each ?_ | exact SubJ.self _) | with_reducible refine SubJ.of ?_ | (with_reducible first | refine FlS (fun Kf hF => ?_) | refine FlN ?_ | refine NdS (fun Kg hG => ?_) | (refine hF _ _ ?_; clear hF; clear Kf) | (refine hG _ _ _ _ ?_; clear hG; clear Kg)) | ((with_reducible refine SqI ?_ (fun Kv hN hX hR => ?_)); (next => exact rfl)) | ((with_reducible refine JnI ?_ ?_); (next => exact rfl)) | ((with_reducible first | refine hN _ ?_ | refine hX _ _ ?_ | refine hR _ ?_); (try (clear hG; clear Kg)); clear hN hX hR; clear Kv) | ((conv => whnf); first | (with_reducible first | rfl | exact True.intro | intro _ | refine And.intro ?_ ?_) | ((with_reducible first | refine hN _ ?_ | refine hX _ _ ?_ | refine hR _ ?_); (try (clear hG; clear Kg)); clear hN hX hR; clear Kv) | (with_reducible first | refine BdS (fun Kv hN hX hR => ?_) | refine Stop.mk ?_ | refine Join.mk ⟨fun Kv hN hX hR => ?_, ?_⟩ | refine DrawJ.each ?_ | exact SubJ.self _) | with_reducible refine SubJ.of ?_ | (with_reducible first | refine FlS (fun Kf hF => ?_) | refine FlN ?_ | refine NdS (fun Kg hG => ?_) | (refine hF _ _ ?_; clear hF; clear Kf) | (refine hG _ _ _ _ ?_; clear hG; clear Kg))))); all_goals (conv => whnf); all_goals (repeat ((try (clear hG; clear Kg)); clear hN hX hR; clear Kv))
       all_goals (try simp only [Int.toNat_natCast, etaMsg] at *)
       all_goals first
         | (have h := of_decide_eq_true (show decide ((i : Int) < (xs.length : Nat)) = true by with_reducible assumption)
            exact Ob.mk ⟨by omega, by omega⟩)
         | (have h3 := of_decide_eq_false (nf (by with_reducible assumption))
            exact (decide_eq_false (fun e => h3 (by rw [e]))).symm)
         | (have h := of_decide_eq_true (show decide ((i : Int) < (xs.length : Nat)) = true by with_reducible assumption)
            have h3 : xs.getD i default = ys.getD i default := of_decide_eq_true (nt (by with_reducible assumption))
            refine ⟨i + 1, ⟨by omega, fun j hj => ?_⟩, by show xs.length - (i + 1) < xs.length - i; omega, ?_⟩
            · rcases Nat.lt_succ_iff_lt_or_eq.1 hj with h4 | h4
              · exact hi.2 j h4
              · subst h4; exact h3
            · (repeat' (first | ((with_reducible refine BdI ?_); (first | ((with_reducible refine SqI ?_ (fun Kv hN hX hR => ?_)); (next => exact rfl)) | ((with_reducible refine JnI ?_ ?_); (next => exact rfl)) | (conv => whnf))) | (with_reducible first | refine BdS (fun Kv hN hX hR => ?_) | refine Stop.mk ?_ | refine Join.mk ⟨fun Kv hN hX hR => ?_, ?_⟩ | refine DrawJ.each ?_ | exact SubJ.self _) | with_reducible refine SubJ.of ?_ | (with_reducible first | refine FlS (fun Kf hF => ?_) | refine FlN ?_ | refine NdS (fun Kg hG => ?_) | (refine hF _ _ ?_; clear hF; clear Kf) | (refine hG _ _ _ _ ?_; clear hG; clear Kg)) | ((with_reducible refine SqI ?_ (fun Kv hN hX hR => ?_)); (next => exact rfl)) | ((with_reducible refine JnI ?_ ?_); (next => exact rfl)) | ((with_reducible first | refine hN _ ?_ | refine hX _ _ ?_ | refine hR _ ?_); (try (clear hG; clear Kg)); clear hN hX hR; clear Kv) | ((conv => whnf); first | (with_reducible first | rfl | exact True.intro | intro _ | refine And.intro ?_ ?_) | ((with_reducible first | refine hN _ ?_ | refine hX _ _ ?_ | refine hR _ ?_); (try (clear hG; clear Kg)); clear hN hX hR; clear Kv) | (with_reducible first | refine BdS (fun Kv hN hX hR => ?_) | refine Stop.mk ?_ | refine Join.mk ⟨fun Kv hN hX hR => ?_, ?_⟩ | refine DrawJ.each ?_ | exact SubJ.self _) | with_reducible refine SubJ.of ?_ | (with_reducible first | refine FlS (fun Kf hF => ?_) | refine FlN ?_ | refine NdS (fun Kg hG => ?_) | (refine hF _ _ ?_; clear hF; clear Kf) | (refine hG _ _ _ _ ?_; clear hG; clear Kg))))); all_goals (conv => whnf); all_goals (repeat ((try (clear hG; clear Kg)); clear hN hX hR; clear Kv))
              all_goals first
                | exact wrapI (by omega) (by omega)
                | rfl)
         | (have h := of_decide_eq_false (show decide ((i : Int) < (xs.length : Nat)) = false by with_reducible assumption)
            exact (decide_eq_true (eq_of_take (d := default) (by omega) fun j hj => hi.2 j (by omega))).symm)
         | skip)
    | skip
end Go.Proofs.YtmhieddhmebfhaaGreat

/- Rows of structs, written over: the walk. -/
namespace Go.Proofs.YtmhieddhmebfhaaGreat
open Go.RowKit Go.Sort
set_option maxHeartbeats 1000000 in
theorem w_SpoilItems : SpoilW Tryz.prog 46 5 3 := by
  refine ⟨fnOk_enters (fn := Tryz.f46) (D := []) (by kernel_rfl) (by kernel_rfl), fun A n c w hn hA => ?_⟩
  go_enter Tryz.func46, Tryz.ntmps46
  go_wp2
  go_loopw [2] (fun vi wr => ∃ i : Nat, vi = .int .i64 i ∧ i ≤ n ∧ ((n = 0 ∧ wr = w) ∨ (0 < n ∧ ∃ ad, A = some ad ∧ Hav ad.block w wr))) (fun vi _ => n - (vIntS vi).toNat)
  case atStart =>
    refine ⟨0, rfl, by omega, ?_⟩
    rcases Nat.eq_zero_or_pos n with h | h
    · exact .inl ⟨h, rfl⟩
    · obtain ⟨ad, h1, _⟩ := hA h
      exact .inr ⟨h, ad, h1, Hav.refl _ _⟩
  case round =>
    obtain ⟨i, rfl, hin, hwr⟩ := hrel
    by_cases hlt : i < n
    · obtain ⟨ad, rfl, hs, hu, hcell⟩ := hA (by omega)
      have hH : Hav ad.block w wr := by
        rcases hwr with ⟨h, _⟩ | ⟨_, ad', e, h⟩
        · omega
        · injection e with e; subst e; exact h
      obtain ⟨z0, hz0⟩ := hcell i hlt
      obtain ⟨z, hz⟩ := hH.int hz0
      obtain ⟨blk, o, sp⟩ := ad
      obtain rfl : sp = none := hs
      have ea : (⟨blk, o, none⟩ : Addr).add (i * 5 + 3) = ⟨blk, o + i * 5 + 3, none⟩ := by unfold Addr.add; split <;> simp_all [Nat.add_assoc]
      rw [ea] at hz
      have hf : wr.frozen? ⟨blk, o + i * 5 + 3, none⟩ = false := unfz_frozen (hH.unfz hu) hz
      have HS : Hid (∀ z', Hav blk w (wr.setCell ⟨blk, o + i * 5 + 3, none⟩ (.int .i64 z'))) := fun z' => hH.store (a := ⟨blk, o + i * 5 + 3, none⟩) rfl rfl hz
      clear hcell hH hA hwr hu hz0 ea
      go_wp2
      go_roundw
      case rel => exact ⟨i + 1, rfl, hlt, .inr ⟨by omega, _, rfl, HS.out _⟩⟩
      case measure => simp [vIntS]; omega
    · have HW : Hid ((n = 0 ∧ wr = w) ∨ (0 < n ∧ ∃ ad, A = some ad ∧ Hav ad.block w wr)) := hwr
      clear hA hwr
      go_wp2
      go_end0
      exact ⟨rfl, HW.out⟩
theorem t_SpoilItems : TrKnown Tryz.prog tau 46 (spoilT 4) := spoil_tr w_SpoilItems rfl fun r i hr => by cases r <;> simp [Rw.kd] at hr; exact ⟨_, rfl⟩
end Go.Proofs.YtmhieddhmebfhaaGreat

/- Rows of structs, written over: the walk. -/
namespace Go.Proofs.YtmhieddhmebfhaaGreat
open Go.RowKit Go.Sort
set_option maxHeartbeats 1000000 in
theorem w_SpoilTolds : SpoilW Tryz.prog 47 3 2 := by
  refine ⟨fnOk_enters (fn := Tryz.f47) (D := []) (by kernel_rfl) (by kernel_rfl), fun A n c w hn hA => ?_⟩
  go_enter Tryz.func47, Tryz.ntmps47
  go_wp2
  go_loopw [2] (fun vi wr => ∃ i : Nat, vi = .int .i64 i ∧ i ≤ n ∧ ((n = 0 ∧ wr = w) ∨ (0 < n ∧ ∃ ad, A = some ad ∧ Hav ad.block w wr))) (fun vi _ => n - (vIntS vi).toNat)
  case atStart =>
    refine ⟨0, rfl, by omega, ?_⟩
    rcases Nat.eq_zero_or_pos n with h | h
    · exact .inl ⟨h, rfl⟩
    · obtain ⟨ad, h1, _⟩ := hA h
      exact .inr ⟨h, ad, h1, Hav.refl _ _⟩
  case round =>
    obtain ⟨i, rfl, hin, hwr⟩ := hrel
    by_cases hlt : i < n
    · obtain ⟨ad, rfl, hs, hu, hcell⟩ := hA (by omega)
      have hH : Hav ad.block w wr := by
        rcases hwr with ⟨h, _⟩ | ⟨_, ad', e, h⟩
        · omega
        · injection e with e; subst e; exact h
      obtain ⟨z0, hz0⟩ := hcell i hlt
      obtain ⟨z, hz⟩ := hH.int hz0
      obtain ⟨blk, o, sp⟩ := ad
      obtain rfl : sp = none := hs
      have ea : (⟨blk, o, none⟩ : Addr).add (i * 3 + 2) = ⟨blk, o + i * 3 + 2, none⟩ := by unfold Addr.add; split <;> simp_all [Nat.add_assoc]
      rw [ea] at hz
      have hf : wr.frozen? ⟨blk, o + i * 3 + 2, none⟩ = false := unfz_frozen (hH.unfz hu) hz
      have HS : Hid (∀ z', Hav blk w (wr.setCell ⟨blk, o + i * 3 + 2, none⟩ (.int .i64 z'))) := fun z' => hH.store (a := ⟨blk, o + i * 3 + 2, none⟩) rfl rfl hz
      clear hcell hH hA hwr hu hz0 ea
      go_wp2
      go_roundw
      case rel => exact ⟨i + 1, rfl, hlt, .inr ⟨by omega, _, rfl, HS.out _⟩⟩
      case measure => simp [vIntS]; omega
    · have HW : Hid ((n = 0 ∧ wr = w) ∨ (0 < n ∧ ∃ ad, A = some ad ∧ Hav ad.block w wr)) := hwr
      clear hA hwr
      go_wp2
      go_end0
      exact ⟨rfl, HW.out⟩
theorem t_SpoilTolds : TrKnown Tryz.prog tau 47 (spoilT 5) := spoil_tr w_SpoilTolds rfl fun r i hr => by cases r <;> simp [Rw.kd] at hr; exact ⟨_, rfl⟩
end Go.Proofs.YtmhieddhmebfhaaGreat

/- Chapter 19: any node. -/
namespace Go.Proofs.YtmhieddhmebfhaaGreat
open Go.RowKit
set_option maxRecDepth 20000
theorem k_CopyNode : Known Tryz.prog tau 7 (S1 dNode fun x => .ok (.agg (nOwn4 x)) (nRows x)) := by
  refine known1 hmix tau_ok (ctx_cons k_CopyView ctx_nil) (fn := Tryz.f7) (by kernel_rfl) [] (by kernel_rfl) _ _ fun x hfit => ⟨rfl, [], ?_⟩
  have hp3 : x.items.length * 40 ≤ 140737488355328 := hfit.1.2.2.2.2.1
  have hp4 : x.log.length * 24 ≤ 140737488355328 := hfit.1.2.2.2.2.2.1
  clear hfit
  (repeat' (first | ((with_reducible refine BdI ?_); (first | ((with_reducible refine SqI ?_ (fun Kv hN hX hR => ?_)); (next => exact rfl)) | ((with_reducible refine JnI ?_ ?_); (next => exact rfl)) | (conv => whnf))) | (with_reducible first | refine BdS (fun Kv hN hX hR => ?_) | refine Stop.mk ?_ | refine Join.mk ⟨fun Kv hN hX hR => ?_, ?_⟩ | refine DrawJ.each ?_ | exact SubJ.self _) | with_reducible refine SubJ.of ?_ | (with_reducible first | refine FlS (fun Kf hF => ?_) | refine FlN ?_ | refine NdS (fun Kg hG => ?_) | (refine hF _ _ ?_; clear hF; clear Kf) | (refine hG _ _ _ _ ?_; clear hG; clear Kg)) | ((with_reducible refine SqI ?_ (fun Kv hN hX hR => ?_)); (next => exact rfl)) | ((with_reducible refine JnI ?_ ?_); (next => exact rfl)) | ((with_reducible first | refine hN _ ?_ | refine hX _ _ ?_ | refine hR _ ?_); (try (clear hG; clear Kg)); clear hN hX hR; clear Kv) | ((conv => whnf); first | (with_reducible first | rfl | exact True.intro | intro _ | refine And.intro ?_ ?_) | ((with_reducible first | refine hN _ ?_ | refine hX _ _ ?_ | refine hR _ ?_); (try (clear hG; clear Kg)); clear hN hX hR; clear Kv) | (with_reducible first | refine BdS (fun Kv hN hX hR => ?_) | refine Stop.mk ?_ | refine Join.mk ⟨fun Kv hN hX hR => ?_, ?_⟩ | refine DrawJ.each ?_ | exact SubJ.self _) | with_reducible refine SubJ.of ?_ | (with_reducible first | refine FlS (fun Kf hF => ?_) | refine FlN ?_ | refine NdS (fun Kg hG => ?_) | (refine hF _ _ ?_; clear hF; clear Kf) | (refine hG _ _ _ _ ?_; clear hG; clear Kg))))); all_goals (conv => whnf); all_goals (repeat ((try (clear hG; clear Kg)); clear hN hX hR; clear Kv))
  all_goals first
    | (refine Ob.mk ?_
       simp only [Rw.len, Rw.bts, Rw.kd, kdBytes, List.length_nil]
       omega)
    | rfl
    | trace_state
theorem t_SpoilNode : TrKnown Tryz.prog tau 13 (inlT tau (addTr 45 (inlT tau (addTr 90 (spoilT 3) (addTr 48 (spoilT 0) (mkCtx []))) [] [] Tryz.f45) (addTr 46 (spoilT 4) (addTr 47 (spoilT 5) (mkCtx [])))) [] [] Tryz.f13) :=
  inl_ok hmix tau_ok (ctx_tr t_SpoilView (ctx_tr t_SpoilItems (ctx_tr t_SpoilTolds ctx_nil))) (by kernel_rfl) [] (by kernel_rfl) []
theorem t_SpoilMsgs (L : List (Nat × Inv)) : TrKnown Tryz.prog tau 14 (inlT tau (addTr 48 (spoilT 0) (mkCtx [])) [] L Tryz.f14) :=
  inl_ok hmix tau_ok (ctx_tr t_SpoilInts ctx_nil) (by kernel_rfl) [] (by kernel_rfl) L
def spL (k n : Nat) (W : List Nat) : List (Nat × Inv) := [(1, invX (Nat × List GMsg) W [k] (fun g => g.1 ≤ g.2.length ∧ g.2.length ≤ n) (fun g => match g with
  | (i, l) => fun st => withS [(2, .int .i64 i)] (withR [(k, .own (.msgs l))] st)) (fun g => g.2.length - g.1))]
theorem tick_max (x : GNode) : (tickN x).2.1.length ≤ 32 := by
  cases hB : (x.up && nodeB x) with
  | true =>
    obtain ⟨b1, b2, b3, b4⟩ := up_view hB
    have t := tick_ok b3
    have tl := congrArg List.length t.2.2.2.2.1
    rw [List.length_append, namesP_len, ← t.2.2.1] at tl
    have t16 := (viewB_iff.1 t.1).2.2.1
    have s16 := (storeB_iff.1 b4).1
    have g3 := shareN_len ⟨x.up, (tickV x.view).1, x.items, x.log⟩
    rw [tickN_def, if_pos hB]
    show (helloL _ _ ++ _).length ≤ 32
    rw [List.length_append, helloL_len]
    have g3 : (shareN ⟨x.up, (tickV x.view).1, x.items, x.log⟩).1.length ≤ x.items.length := g3
    omega
  | false =>
    rw [tickN_def, if_neg (by rw [hB]; simp)]
    show 0 ≤ 32
    omega
set_option maxHeartbeats 4000000 in
theorem k_Ticks : Known Tryz.prog tau 3 (S1 dNode fun x => okB true) := by
  refine knownX1 hmix tau_ok (fn := Tryz.f3) (by kernel_rfl) [] (by kernel_rfl) _ _ fun x hfit => ⟨rfl, _, ctx_tr t_SpoilNode (ctx_tr (t_SpoilMsgs (spL 300014 32 [2, 3, 4, 5, 6, 7, 8, 9, 10, 11, 12, 13, 14, 15, 16, 17, 18, 19, 20, 21, 22, 23, 24])) (ctx_cons k_CopyNode (ctx_cons k_tickStep (ctx_cons k_refTick (ctx_cons k_SameNode (ctx_cons k_SameMsgs (ctx_cons k_Num (ctx_cons k_awake19 ctx_nil)))))))),
    [(1000002, invF Unit [999999999] [] [] (fun _ => True) (fun _ st => withS [(3, .box 3 0)] (withB [(3, (29, [.bool x.up, .int .i64 x.view.id, .row .old (.peers x.view.peers), .row .old (.ints x.view.passive), .row .old (.items x.items), .row .old (.tolds x.log)]))] st)) (fun _ => 0)),
     (1000007, invF (List GMsg) [300014] ((List.range 60).map (· + 4)) [100014, 200014, 300014, 100020, 200020, 300020] (fun l => l.length ≤ 32) (fun l st => withS [(5, .own 300014)] (withR [(300014, .own (.msgs l))] st)) (fun _ => 0))], ?_⟩
  clear hfit
  have tm := tick_max x
  (repeat' (first | ((with_reducible refine BdI ?_); (first | ((with_reducible refine SqI ?_ (fun Kv hN hX hR => ?_)); (next => exact rfl)) | ((with_reducible refine JnI ?_ ?_); (next => exact rfl)) | (conv => whnf))) | (with_reducible first | refine BdS (fun Kv hN hX hR => ?_) | refine Stop.mk ?_ | refine Join.mk ⟨fun Kv hN hX hR => ?_, ?_⟩ | refine DrawJ.each ?_ | exact SubJ.self _) | with_reducible refine SubJ.of ?_ | (with_reducible first | refine FlS (fun Kf hF => ?_) | refine FlN ?_ | refine NdS (fun Kg hG => ?_) | (refine hF _ _ ?_; clear hF; clear Kf) | (refine hG _ _ _ _ ?_; clear hG; clear Kg)) | ((with_reducible refine SqI ?_ (fun Kv hN hX hR => ?_)); (next => exact rfl)) | ((with_reducible refine JnI ?_ ?_); (next => exact rfl)) | ((with_reducible first | refine hN _ ?_ | refine hX _ _ ?_ | refine hR _ ?_); (try (clear hG; clear Kg)); clear hN hX hR; clear Kv) | ((conv => whnf); first | (with_reducible first | rfl | exact True.intro | refine (fun (_ : (_ : Prop)) => ?_) | refine And.intro ?_ ?_) | ((with_reducible first | refine hN _ ?_ | refine hX _ _ ?_ | refine hR _ ?_); (try (clear hG; clear Kg)); clear hN hX hR; clear Kv) | (with_reducible first | refine BdS (fun Kv hN hX hR => ?_) | refine Stop.mk ?_ | refine Join.mk ⟨fun Kv hN hX hR => ?_, ?_⟩ | refine DrawJ.each ?_ | exact SubJ.self _) | with_reducible refine SubJ.of ?_ | (with_reducible first | refine FlS (fun Kf hF => ?_) | refine FlN ?_ | refine NdS (fun Kg hG => ?_) | (refine hF _ _ ?_; clear hF; clear Kf) | (refine hG _ _ _ _ ?_; clear hG; clear Kg))))); all_goals (conv => whnf); all_goals (repeat ((try (clear hG; clear Kg)); clear hN hX hR; clear Kv))
  all_goals first
    | (refine ⟨(), trivial, ?_⟩
       (repeat' (first | ((with_reducible refine BdI ?_); (first | ((with_reducible refine SqI ?_ (fun Kv hN hX hR => ?_)); (next => exact rfl)) | ((with_reducible refine JnI ?_ ?_); (next => exact rfl)) | (conv => whnf))) | (with_reducible first | refine BdS (fun Kv hN hX hR => ?_) | refine Stop.mk ?_ | refine Join.mk ⟨fun Kv hN hX hR => ?_, ?_⟩ | refine DrawJ.each ?_ | exact SubJ.self _) | with_reducible refine SubJ.of ?_ | (with_reducible first | refine FlS (fun Kf hF => ?_) | refine FlN ?_ | refine NdS (fun Kg hG => ?_) | (refine hF _ _ ?_; clear hF; clear Kf) | (refine hG _ _ _ _ ?_; clear hG; clear Kg)) | ((with_reducible refine SqI ?_ (fun Kv hN hX hR => ?_)); (next => exact rfl)) | ((with_reducible refine JnI ?_ ?_); (next => exact rfl)) | ((with_reducible first | refine hN _ ?_ | refine hX _ _ ?_ | refine hR _ ?_); (try (clear hG; clear Kg)); clear hN hX hR; clear Kv) | ((conv => whnf); first | (with_reducible first | rfl | exact True.intro | intro _ | refine And.intro ?_ ?_) | ((with_reducible first | refine hN _ ?_ | refine hX _ _ ?_ | refine hR _ ?_); (try (clear hG; clear Kg)); clear hN hX hR; clear Kv) | (with_reducible first | refine BdS (fun Kv hN hX hR => ?_) | refine Stop.mk ?_ | refine Join.mk ⟨fun Kv hN hX hR => ?_, ?_⟩ | refine DrawJ.each ?_ | exact SubJ.self _) | with_reducible refine SubJ.of ?_ | (with_reducible first | refine FlS (fun Kf hF => ?_) | refine FlN ?_ | refine NdS (fun Kg hG => ?_) | (refine hF _ _ ?_; clear hF; clear Kf) | (refine hG _ _ _ _ ?_; clear hG; clear Kg))))); all_goals (conv => whnf); all_goals (repeat ((try (clear hG; clear Kg)); clear hN hX hR; clear Kv))
       all_goals rfl)
    | (with_reducible intro _ _
       (repeat' (first | ((with_reducible refine BdI ?_); (first | ((with_reducible refine SqI ?_ (fun Kv hN hX hR => ?_)); (next => exact rfl)) | ((with_reducible refine JnI ?_ ?_); (next => exact rfl)) | (conv => whnf))) | (with_reducible first | refine BdS (fun Kv hN hX hR => ?_) | refine Stop.mk ?_ | refine Join.mk ⟨fun Kv hN hX hR => ?_, ?_⟩ | refine DrawJ.each ?_ | exact SubJ.self _) | with_reducible refine SubJ.of ?_ | (with_reducible first | refine FlS (fun Kf hF => ?_) | refine FlN ?_ | refine NdS (fun Kg hG => ?_) | (refine hF _ _ ?_; clear hF; clear Kf) | (refine hG _ _ _ _ ?_; clear hG; clear Kg)) | ((with_reducible refine SqI ?_ (fun Kv hN hX hR => ?_)); (next => exact rfl)) | ((with_reducible refine JnI ?_ ?_); (next => exact rfl)) | ((with_reducible first | refine hN _ ?_ | refine hX _ _ ?_ | refine hR _ ?_); (try (clear hG; clear Kg)); clear hN hX hR; clear Kv) | ((conv => whnf); first | (with_reducible first | rfl | exact True.intro | intro _ | refine And.intro ?_ ?_) | ((with_reducible first | refine hN _ ?_ | refine hX _ _ ?_ | refine hR _ ?_); (try (clear hG; clear Kg)); clear hN hX hR; clear Kv) | (with_reducible first | refine BdS (fun Kv hN hX hR => ?_) | refine Stop.mk ?_ | refine Join.mk ⟨fun Kv hN hX hR => ?_, ?_⟩ | refine DrawJ.each ?_ | exact SubJ.self _) | with_reducible refine SubJ.of ?_ | (with_reducible first | refine FlS (fun Kf hF => ?_) | refine FlN ?_ | refine NdS (fun Kg hG => ?_) | (refine hF _ _ ?_; clear hF; clear Kf) | (refine hG _ _ _ _ ?_; clear hG; clear Kg))))); all_goals (conv => whnf); all_goals (repeat ((try (clear hG; clear Kg)); clear hN hX hR; clear Kv))
       all_goals first
         | rfl
         | (exfalso; rename_i h; simp at h; done)
         | (refine Ob.mk ?_
            simp only [decide_eq_true_eq] at *
            omega)
         | skip)
    | skip
  · refine ⟨?w, ?h1, ?h2⟩
    case h2 =>
      (repeat' (first | ((with_reducible refine BdI ?_); (first | ((with_reducible refine SqI ?_ (fun Kv hN hX hR => ?_)); (next => exact rfl)) | ((with_reducible refine JnI ?_ ?_); (next => exact rfl)) | (conv => whnf))) | (with_reducible first | refine BdS (fun Kv hN hX hR => ?_) | refine Stop.mk ?_ | refine Join.mk ⟨fun Kv hN hX hR => ?_, ?_⟩ | refine DrawJ.each ?_ | exact SubJ.self _) | with_reducible refine SubJ.of ?_ | (with_reducible first | refine FlS (fun Kf hF => ?_) | refine FlN ?_ | refine NdS (fun Kg hG => ?_) | (refine hF _ _ ?_; clear hF; clear Kf) | (refine hG _ _ _ _ ?_; clear hG; clear Kg)) | ((with_reducible refine SqI ?_ (fun Kv hN hX hR => ?_)); (next => exact rfl)) | ((with_reducible refine JnI ?_ ?_); (next => exact rfl)) | ((with_reducible first | refine hN _ ?_ | refine hX _ _ ?_ | refine hR _ ?_); (try (clear hG; clear Kg)); clear hN hX hR; clear Kv) | ((conv => whnf); first | (with_reducible first | rfl | exact True.intro | intro _ | refine And.intro ?_ ?_) | ((with_reducible first | refine hN _ ?_ | refine hX _ _ ?_ | refine hR _ ?_); (try (clear hG; clear Kg)); clear hN hX hR; clear Kv) | (with_reducible first | refine BdS (fun Kv hN hX hR => ?_) | refine Stop.mk ?_ | refine Join.mk ⟨fun Kv hN hX hR => ?_, ?_⟩ | refine DrawJ.each ?_ | exact SubJ.self _) | with_reducible refine SubJ.of ?_ | (with_reducible first | refine FlS (fun Kf hF => ?_) | refine FlN ?_ | refine NdS (fun Kg hG => ?_) | (refine hF _ _ ?_; clear hF; clear Kf) | (refine hG _ _ _ _ ?_; clear hG; clear Kg))))); all_goals (conv => whnf); all_goals (repeat ((try (clear hG; clear Kg)); clear hN hX hR; clear Kv))
      all_goals rfl
    case h1 =>
      simp only [etaView, etaNode2] at *
      omega
  · refine ⟨(0, ?w2), ⟨Nat.zero_le _, ?h1⟩, ?h2⟩
    case h2 =>
      (repeat' (first | ((with_reducible refine BdI ?_); (first | ((with_reducible refine SqI ?_ (fun Kv hN hX hR => ?_)); (next => exact rfl)) | ((with_reducible refine JnI ?_ ?_); (next => exact rfl)) | (conv => whnf))) | (with_reducible first | refine BdS (fun Kv hN hX hR => ?_) | refine Stop.mk ?_ | refine Join.mk ⟨fun Kv hN hX hR => ?_, ?_⟩ | refine DrawJ.each ?_ | exact SubJ.self _) | with_reducible refine SubJ.of ?_ | (with_reducible first | refine FlS (fun Kf hF => ?_) | refine FlN ?_ | refine NdS (fun Kg hG => ?_) | (refine hF _ _ ?_; clear hF; clear Kf) | (refine hG _ _ _ _ ?_; clear hG; clear Kg)) | ((with_reducible refine SqI ?_ (fun Kv hN hX hR => ?_)); (next => exact rfl)) | ((with_reducible refine JnI ?_ ?_); (next => exact rfl)) | ((with_reducible first | refine hN _ ?_ | refine hX _ _ ?_ | refine hR _ ?_); (try (clear hG; clear Kg)); clear hN hX hR; clear Kv) | ((conv => whnf); first | (with_reducible first | rfl | exact True.intro | intro _ | refine And.intro ?_ ?_) | ((with_reducible first | refine hN _ ?_ | refine hX _ _ ?_ | refine hR _ ?_); (try (clear hG; clear Kg)); clear hN hX hR; clear Kv) | (with_reducible first | refine BdS (fun Kv hN hX hR => ?_) | refine Stop.mk ?_ | refine Join.mk ⟨fun Kv hN hX hR => ?_, ?_⟩ | refine DrawJ.each ?_ | exact SubJ.self _) | with_reducible refine SubJ.of ?_ | (with_reducible first | refine FlS (fun Kf hF => ?_) | refine FlN ?_ | refine NdS (fun Kg hG => ?_) | (refine hF _ _ ?_; clear hF; clear Kf) | (refine hG _ _ _ _ ?_; clear hG; clear Kg))))); all_goals (conv => whnf); all_goals (repeat ((try (clear hG; clear Kg)); clear hN hX hR; clear Kv))
      all_goals rfl
    case h1 =>
      dsimp only at *
      omega
  · rename_i g ok lt ob l' hl ob1 ob2
    refine ⟨(g.1 + 1, ?w3), ⟨?h1, ?h3⟩, ?h4, ?h2⟩
    case h2 =>
      (repeat' (first | ((with_reducible refine BdI ?_); (first | ((with_reducible refine SqI ?_ (fun Kv hN hX hR => ?_)); (next => exact rfl)) | ((with_reducible refine JnI ?_ ?_); (next => exact rfl)) | (conv => whnf))) | (with_reducible first | refine BdS (fun Kv hN hX hR => ?_) | refine Stop.mk ?_ | refine Join.mk ⟨fun Kv hN hX hR => ?_, ?_⟩ | refine DrawJ.each ?_ | exact SubJ.self _) | with_reducible refine SubJ.of ?_ | (with_reducible first | refine FlS (fun Kf hF => ?_) | refine FlN ?_ | refine NdS (fun Kg hG => ?_) | (refine hF _ _ ?_; clear hF; clear Kf) | (refine hG _ _ _ _ ?_; clear hG; clear Kg)) | ((with_reducible refine SqI ?_ (fun Kv hN hX hR => ?_)); (next => exact rfl)) | ((with_reducible refine JnI ?_ ?_); (next => exact rfl)) | ((with_reducible first | refine hN _ ?_ | refine hX _ _ ?_ | refine hR _ ?_); (try (clear hG; clear Kg)); clear hN hX hR; clear Kv) | ((conv => whnf); first | (with_reducible first | rfl | exact True.intro | intro _ | refine And.intro ?_ ?_) | ((with_reducible first | refine hN _ ?_ | refine hX _ _ ?_ | refine hR _ ?_); (try (clear hG; clear Kg)); clear hN hX hR; clear Kv) | (with_reducible first | refine BdS (fun Kv hN hX hR => ?_) | refine Stop.mk ?_ | refine Join.mk ⟨fun Kv hN hX hR => ?_, ?_⟩ | refine DrawJ.each ?_ | exact SubJ.self _) | with_reducible refine SubJ.of ?_ | (with_reducible first | refine FlS (fun Kf hF => ?_) | refine FlN ?_ | refine NdS (fun Kg hG => ?_) | (refine hF _ _ ?_; clear hF; clear Kf) | (refine hG _ _ _ _ ?_; clear hG; clear Kg))))); all_goals (conv => whnf); all_goals (repeat ((try (clear hG; clear Kg)); clear hN hX hR; clear Kv))
      all_goals first
        | rfl
        | (rw [wrapI (by omega) (by omega)]
           rfl)
    all_goals
      simp only [List.length_set, decide_eq_true_eq] at *
      omega
end Go.Proofs.YtmhieddhmebfhaaGreat
