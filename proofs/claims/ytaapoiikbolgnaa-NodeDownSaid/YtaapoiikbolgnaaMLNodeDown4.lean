/- A part of the proof of NodeDown: G16a, G16b, G16c. -/
import Derived.Test.YtaapoiikbolgnaaMLNodeDown3
/- Chapter 16: the laws' functions. -/
namespace Go.Proofs.Ytaapoiikbolgnaa
open Go.RowKit

theorem k_SameView : Known Try.prog tau 27 (S2 dView dView fun a b => okB (decide (a = b))) := by
  refine known2 hmix tau_ok (ctx_cons k_SamePeers (ctx_cons k_SameInts ctx_nil)) (fn := Try.f27) (by kernel_rfl) [] (by kernel_rfl) _ _ _ fun a b hfit => ⟨rfl, [], ?_⟩
  clear hfit
  (repeat' (first | ((with_reducible refine body_intro ?_); (first | refine seq_intro (fun Kv hN hX hR => ?_) | (conv => whnf))) | with_reducible refine body_stop (fun Kv hN hX hR => ?_) | with_reducible refine Stop.mk ?_ | with_reducible refine DrawJ.each ?_ | with_reducible exact SubJ.self _ | with_reducible refine SubJ.of ?_ | with_reducible refine fill2_step (fun Kf hF => ?_) | with_reducible refine fill2_nil ?_ | with_reducible refine node2_step (fun Kg hG => ?_) | (with_reducible refine hF _ _ ?_; clear hF; clear Kf) | (with_reducible refine hG _ _ _ _ ?_; clear hG; clear Kg) | with_reducible refine seq_intro (fun Kv hN hX hR => ?_) | (with_reducible refine hN _ ?_; (try (clear hG; clear Kg)); clear hN hX hR; clear Kv) | (with_reducible refine hX _ _ ?_; (try (clear hG; clear Kg)); clear hN hX hR; clear Kv) | (with_reducible refine hR _ ?_; (try (clear hG; clear Kg)); clear hN hX hR; clear Kv) | ((conv => whnf); first | with_reducible rfl | with_reducible exact True.intro | with_reducible intro _ | with_reducible refine And.intro ?_ ?_ | (with_reducible refine hN _ ?_; (try (clear hG; clear Kg)); clear hN hX hR; clear Kv) | (with_reducible refine hX _ _ ?_; (try (clear hG; clear Kg)); clear hN hX hR; clear Kv) | (with_reducible refine hR _ ?_; (try (clear hG; clear Kg)); clear hN hX hR; clear Kv) | with_reducible refine body_stop (fun Kv hN hX hR => ?_) | with_reducible refine Stop.mk ?_ | with_reducible refine DrawJ.each ?_ | with_reducible exact SubJ.self _ | with_reducible refine SubJ.of ?_ | with_reducible refine fill2_step (fun Kf hF => ?_) | with_reducible refine fill2_nil ?_ | with_reducible refine node2_step (fun Kg hG => ?_) | (with_reducible refine hF _ _ ?_; clear hF; clear Kf) | (with_reducible refine hG _ _ _ _ ?_; clear hG; clear Kg)))); all_goals (conv => whnf); all_goals (repeat ((try (clear hG; clear Kg)); clear hN hX hR; clear Kv))
  all_goals (cases a; cases b; simp_all)
theorem k_SameNode : Known Try.prog tau 15 (S2 dNode dNode fun a b => okB (decide (a = b))) := by
  refine known2 hmix tau_ok (ctx_cons k_SameView (ctx_cons k_SameItems (ctx_cons k_SameTolds ctx_nil))) (fn := Try.f15) (by kernel_rfl) [] (by kernel_rfl) _ _ _ fun a b hfit => ⟨rfl, [], ?_⟩
  clear hfit
  (repeat' (first | ((with_reducible refine body_intro ?_); (first | refine seq_intro (fun Kv hN hX hR => ?_) | (conv => whnf))) | with_reducible refine body_stop (fun Kv hN hX hR => ?_) | with_reducible refine Stop.mk ?_ | with_reducible refine DrawJ.each ?_ | with_reducible exact SubJ.self _ | with_reducible refine SubJ.of ?_ | with_reducible refine fill2_step (fun Kf hF => ?_) | with_reducible refine fill2_nil ?_ | with_reducible refine node2_step (fun Kg hG => ?_) | (with_reducible refine hF _ _ ?_; clear hF; clear Kf) | (with_reducible refine hG _ _ _ _ ?_; clear hG; clear Kg) | with_reducible refine seq_intro (fun Kv hN hX hR => ?_) | (with_reducible refine hN _ ?_; (try (clear hG; clear Kg)); clear hN hX hR; clear Kv) | (with_reducible refine hX _ _ ?_; (try (clear hG; clear Kg)); clear hN hX hR; clear Kv) | (with_reducible refine hR _ ?_; (try (clear hG; clear Kg)); clear hN hX hR; clear Kv) | ((conv => whnf); first | with_reducible rfl | with_reducible exact True.intro | with_reducible intro _ | with_reducible refine And.intro ?_ ?_ | (with_reducible refine hN _ ?_; (try (clear hG; clear Kg)); clear hN hX hR; clear Kv) | (with_reducible refine hX _ _ ?_; (try (clear hG; clear Kg)); clear hN hX hR; clear Kv) | (with_reducible refine hR _ ?_; (try (clear hG; clear Kg)); clear hN hX hR; clear Kv) | with_reducible refine body_stop (fun Kv hN hX hR => ?_) | with_reducible refine Stop.mk ?_ | with_reducible refine DrawJ.each ?_ | with_reducible exact SubJ.self _ | with_reducible refine SubJ.of ?_ | with_reducible refine fill2_step (fun Kf hF => ?_) | with_reducible refine fill2_nil ?_ | with_reducible refine node2_step (fun Kg hG => ?_) | (with_reducible refine hF _ _ ?_; clear hF; clear Kf) | (with_reducible refine hG _ _ _ _ ?_; clear hG; clear Kg)))); all_goals (conv => whnf); all_goals (repeat ((try (clear hG; clear Kg)); clear hN hX hR; clear Kv))
  all_goals (rcases a with ⟨a1, ⟨a2, a3, a4⟩, a5, a6⟩; rcases b with ⟨b1, ⟨b2, b3, b4⟩, b5, b6⟩; simp_all)
def itI (k c : Int) : GItem := ⟨k, ⟨c, 1⟩, bits .and .i64 c 255, false⟩
theorem k_it : Known Try.prog tau 23 (S2 dInt dInt fun k c => .ok (.agg [.int .i64 k, .int .i64 c, .int .i64 1, .int .i64 (bits .and .i64 c 255), .bool false]) []) := by
  refine known2 hmix tau_ok ctx_nil (fn := Try.f23) (by kernel_rfl) [] (by kernel_rfl) _ _ _ fun k c hfit => ⟨rfl, [], ?_⟩
  clear hfit
  (repeat' (first | ((with_reducible refine body_intro ?_); (first | refine seq_intro (fun Kv hN hX hR => ?_) | (conv => whnf))) | with_reducible refine body_stop (fun Kv hN hX hR => ?_) | with_reducible refine Stop.mk ?_ | with_reducible refine DrawJ.each ?_ | with_reducible exact SubJ.self _ | with_reducible refine SubJ.of ?_ | with_reducible refine fill2_step (fun Kf hF => ?_) | with_reducible refine fill2_nil ?_ | with_reducible refine node2_step (fun Kg hG => ?_) | (with_reducible refine hF _ _ ?_; clear hF; clear Kf) | (with_reducible refine hG _ _ _ _ ?_; clear hG; clear Kg) | with_reducible refine seq_intro (fun Kv hN hX hR => ?_) | (with_reducible refine hN _ ?_; (try (clear hG; clear Kg)); clear hN hX hR; clear Kv) | (with_reducible refine hX _ _ ?_; (try (clear hG; clear Kg)); clear hN hX hR; clear Kv) | (with_reducible refine hR _ ?_; (try (clear hG; clear Kg)); clear hN hX hR; clear Kv) | ((conv => whnf); first | with_reducible rfl | with_reducible exact True.intro | with_reducible intro _ | with_reducible refine And.intro ?_ ?_ | (with_reducible refine hN _ ?_; (try (clear hG; clear Kg)); clear hN hX hR; clear Kv) | (with_reducible refine hX _ _ ?_; (try (clear hG; clear Kg)); clear hN hX hR; clear Kv) | (with_reducible refine hR _ ?_; (try (clear hG; clear Kg)); clear hN hX hR; clear Kv) | with_reducible refine body_stop (fun Kv hN hX hR => ?_) | with_reducible refine Stop.mk ?_ | with_reducible refine DrawJ.each ?_ | with_reducible exact SubJ.self _ | with_reducible refine SubJ.of ?_ | with_reducible refine fill2_step (fun Kf hF => ?_) | with_reducible refine fill2_nil ?_ | with_reducible refine node2_step (fun Kg hG => ?_) | (with_reducible refine hF _ _ ?_; clear hF; clear Kf) | (with_reducible refine hG _ _ _ _ ?_; clear hG; clear Kg)))); all_goals (conv => whnf); all_goals (repeat ((try (clear hG; clear Kg)); clear hN hX hR; clear Kv))
  all_goals rfl
end Go.Proofs.Ytaapoiikbolgnaa

/- Chapter 16: the laws' functions: awake. -/
namespace Go.Proofs.Ytaapoiikbolgnaa
open Go.RowKit

def n100 : GNode := ⟨true, ⟨100, [⟨101, 2⟩, ⟨200, 0⟩, ⟨90, 1⟩], [7]⟩, [⟨95, ⟨1, 1⟩, 1, false⟩, ⟨99, ⟨3, 1⟩, 3, false⟩, ⟨250, ⟨2, 1⟩, 2, false⟩], []⟩
def nOwn (n : GNode) : List SV := [.bool n.up, .int .i64 n.view.id, .own 0, .own 1, .own 2, .row .new (.tolds n.log)]
theorem k_node100 : Known Try.prog tau 22 (S0 (.ok (.agg (nOwn n100)) [.peers n100.view.peers, .ints n100.view.passive, .items n100.items])) := by
  refine known0 hmix tau_ok (ctx_cons k_it ctx_nil) (fn := Try.f22) (by kernel_rfl) [] (by kernel_rfl) _ fun hfit => ⟨rfl, [], ?_⟩
  clear hfit
  (repeat' (first | ((with_reducible refine body_intro ?_); (first | refine seq_intro (fun Kv hN hX hR => ?_) | (conv => whnf))) | with_reducible refine body_stop (fun Kv hN hX hR => ?_) | with_reducible refine Stop.mk ?_ | with_reducible refine DrawJ.each ?_ | with_reducible exact SubJ.self _ | with_reducible refine SubJ.of ?_ | with_reducible refine fill2_step (fun Kf hF => ?_) | with_reducible refine fill2_nil ?_ | with_reducible refine node2_step (fun Kg hG => ?_) | (with_reducible refine hF _ _ ?_; clear hF; clear Kf) | (with_reducible refine hG _ _ _ _ ?_; clear hG; clear Kg) | with_reducible refine seq_intro (fun Kv hN hX hR => ?_) | (with_reducible refine hN _ ?_; (try (clear hG; clear Kg)); clear hN hX hR; clear Kv) | (with_reducible refine hX _ _ ?_; (try (clear hG; clear Kg)); clear hN hX hR; clear Kv) | (with_reducible refine hR _ ?_; (try (clear hG; clear Kg)); clear hN hX hR; clear Kv) | ((conv => whnf); first | with_reducible rfl | with_reducible exact True.intro | with_reducible intro _ | with_reducible refine And.intro ?_ ?_ | (with_reducible refine hN _ ?_; (try (clear hG; clear Kg)); clear hN hX hR; clear Kv) | (with_reducible refine hX _ _ ?_; (try (clear hG; clear Kg)); clear hN hX hR; clear Kv) | (with_reducible refine hR _ ?_; (try (clear hG; clear Kg)); clear hN hX hR; clear Kv) | with_reducible refine body_stop (fun Kv hN hX hR => ?_) | with_reducible refine Stop.mk ?_ | with_reducible refine DrawJ.each ?_ | with_reducible exact SubJ.self _ | with_reducible refine SubJ.of ?_ | with_reducible refine fill2_step (fun Kf hF => ?_) | with_reducible refine fill2_nil ?_ | with_reducible refine node2_step (fun Kg hG => ?_) | (with_reducible refine hF _ _ ?_; clear hF; clear Kf) | (with_reducible refine hG _ _ _ _ ?_; clear hG; clear Kg)))); all_goals (conv => whnf); all_goals (repeat ((try (clear hG; clear Kg)); clear hN hX hR; clear Kv))
  all_goals first
    | (refine Ob.mk ?_; decide)
    | rfl
    | trace_state
/-- The same, to be reckoned. -/
def withC (l : List Int) (x : Int) : List Int × Int := if passB l = true ∧ placeB x = true then (if hasI l x = true then (l, (0 : Int)) else if l.length = 16 then ([], 801) else (insP l x, 0)) else ([], 800)
def newC (id : Int) : List Int → List Int → Option (List Int)
  | acc, [] => some acc
  | acc, y :: ys => if y = id then newC id acc ys else if (withC acc y).2 = 0 then newC id (withC acc y).1 ys else none
def nodeC (id : Int) (ids : List Int) : GNode × Int := if placeB id = true then (match newC id [] ids with
  | some l => ((⟨true, ⟨id, [], l⟩, [], []⟩ : GNode), (0 : Int))
  | none => (nodeZ, 1600)) else (nodeZ, 1600)
theorem withC_eq (l : List Int) (x : Int) : withP l x = withC l x := withP_def l x
theorem newC_eq (id : Int) : ∀ (ids acc : List Int), newP id acc ids = newC id acc ids
  | [], acc => rfl
  | y :: ys, acc => by
    unfold newP newC
    rw [withC_eq, newC_eq id ys, newC_eq id ys]
theorem nodeC_eq (id : Int) (ids : List Int) : newN id ids = nodeC id ids := by
  rw [newN_def, newC_eq]
  rfl
theorem aw16_a : newN 5 [9, 5, 3, 9] = (⟨true, ⟨5, [], [3, 9]⟩, [], []⟩, 0) := by rw [nodeC_eq]; decide
theorem aw16_b : newN 256 [] = (nodeZ, 1600) := by rw [nodeC_eq]; decide
theorem aw16_c : newN 5 [-1] = (nodeZ, 1600) := by rw [nodeC_eq]; decide
theorem n100_may : nodeB n100 = true := by decide
theorem aw16_d : nodeB ⟨false, ⟨9, [], []⟩, [], []⟩ = true := by decide
theorem aw16_e : nodeB ⟨false, ⟨9, [], []⟩, [], [⟨0, false, 0⟩]⟩ = false := by decide
set_option maxHeartbeats 1000000 in
theorem k_awake16 : Known Try.prog tau 21 (S0 (okB true)) := by
  refine known0 hmix tau_ok (ctx_cons k_New (ctx_cons k_SameNode (ctx_cons k_Num (ctx_cons k_nodeMay (ctx_cons k_node100 ctx_nil))))) (fn := Try.f21) (by kernel_rfl) [] (by kernel_rfl) _ fun hfit => ⟨rfl, [], ?_⟩
  clear hfit
  (repeat' (first | ((with_reducible refine body_intro ?_); (first | refine seq_intro (fun Kv hN hX hR => ?_) | (conv => whnf))) | with_reducible refine body_stop (fun Kv hN hX hR => ?_) | with_reducible refine Stop.mk ?_ | with_reducible refine DrawJ.each ?_ | with_reducible exact SubJ.self _ | with_reducible refine SubJ.of ?_ | with_reducible refine fill2_step (fun Kf hF => ?_) | with_reducible refine fill2_nil ?_ | with_reducible refine node2_step (fun Kg hG => ?_) | (with_reducible refine hF _ _ ?_; clear hF; clear Kf) | (with_reducible refine hG _ _ _ _ ?_; clear hG; clear Kg) | with_reducible refine seq_intro (fun Kv hN hX hR => ?_) | (with_reducible refine hN _ ?_; (try (clear hG; clear Kg)); clear hN hX hR; clear Kv) | (with_reducible refine hX _ _ ?_; (try (clear hG; clear Kg)); clear hN hX hR; clear Kv) | (with_reducible refine hR _ ?_; (try (clear hG; clear Kg)); clear hN hX hR; clear Kv) | ((conv => whnf); first | with_reducible rfl | with_reducible exact True.intro | with_reducible intro _ | with_reducible refine And.intro ?_ ?_ | (with_reducible refine hN _ ?_; (try (clear hG; clear Kg)); clear hN hX hR; clear Kv) | (with_reducible refine hX _ _ ?_; (try (clear hG; clear Kg)); clear hN hX hR; clear Kv) | (with_reducible refine hR _ ?_; (try (clear hG; clear Kg)); clear hN hX hR; clear Kv) | with_reducible refine body_stop (fun Kv hN hX hR => ?_) | with_reducible refine Stop.mk ?_ | with_reducible refine DrawJ.each ?_ | with_reducible exact SubJ.self _ | with_reducible refine SubJ.of ?_ | with_reducible refine fill2_step (fun Kf hF => ?_) | with_reducible refine fill2_nil ?_ | with_reducible refine node2_step (fun Kg hG => ?_) | (with_reducible refine hF _ _ ?_; clear hF; clear Kf) | (with_reducible refine hG _ _ _ _ ?_; clear hG; clear Kg)))); all_goals (conv => whnf); all_goals (repeat ((try (clear hG; clear Kg)); clear hN hX hR; clear Kv))
  all_goals (try simp only [etaNode, aw16_a, aw16_b, aw16_c, aw16_d, aw16_e, n100_may] at *)
  all_goals first
    | (refine Ob.mk ?_; decide)
    | (simp_all; done)
    | rfl
    | trace_state
end Go.Proofs.Ytaapoiikbolgnaa

/- Chapter 16: a node that is down. -/
namespace Go.Proofs.Ytaapoiikbolgnaa
open Go.RowKit

theorem placeB_iff {x : Int} : placeB x = true ↔ 0 ≤ x ∧ x < 256 := by simp [placeB]
theorem nd_x {k : Int} (hk : placeB k = true) : nodeB ⟨false, ⟨k, [], []⟩, [], []⟩ = true := by
  simp [nodeB, viewB, peersB, passB, storeB, hk]
theorem nd_zv {k : Int} (hk : placeB k = true) : viewB ⟨k, [], []⟩ = true := by simp [viewB, peersB, passB, hk]
theorem nd_z0 {k w : Int} (hk : placeB k = true) (hw : placeB w = true) (h : w ≠ k) : nodeB ⟨true, ⟨k, [⟨w, 0⟩], []⟩, [], []⟩ = true := by
  have hp : peerB k ⟨w, 0⟩ = true := by
    have := (far_pos hk hw).1.2 h
    simp [peerB, hw, this]
  simp [nodeB, viewB, peersB, passB, storeB, hk, hp]
theorem nd_z1 {k w : Int} (hk : placeB k = true) (hw : placeB w = true) (h : w ≠ k) : nodeB ⟨true, ⟨k, [], [w]⟩, [], []⟩ = true := by
  simp [nodeB, viewB, peersB, passB, storeB, hk, hw, oddV, hasP, h]
theorem nd_z2 {k : Int} (hk : placeB k = true) {i : GItem} (hi : itemB i = true) : nodeB ⟨true, ⟨k, [], []⟩, [i], []⟩ = true := by
  simp [nodeB, viewB, peersB, passB, storeB, hk, hi]
theorem nd_z3 {k : Int} (hk : placeB k = true) {t : GTold} (ht : toldB t = true) : nodeB ⟨true, ⟨k, [], []⟩, [], [t]⟩ = true := by
  simp [nodeB, viewB, peersB, passB, storeB, hk, ht]
theorem nd_y {x : GNode} (h : x.up = false) (h2 : x.view.peers.length + x.view.passive.length + x.items.length + x.log.length ≠ 0) : nodeB x = false := by
  rw [nodeB_down h, decide_eq_false h2, Bool.false_and]
theorem k_NodeDown : Known Try.prog tau 6 (S2 dInt dInt fun a b => okB true) := by
  refine known2 hmix tau_ok (ctx_cons k_awake16 (ctx_cons k_it (ctx_cons k_nodeMay (ctx_cons k_Num (ctx_cons k_node100 ctx_nil))))) (fn := Try.f6) (by kernel_rfl) [] (by kernel_rfl) _ _ _ fun a b hfit => ⟨rfl, [], ?_⟩
  clear hfit
  have hk : placeB (bits .and .i64 a 255) = true := by rw [placeB_iff, and255]; omega
  have hw : placeB (bits .and .i64 (IntKind.i64.wrap (bits .and .i64 a 255 + 1)) 255) = true := by rw [placeB_iff, and255]; omega
  have hne : bits .and .i64 (IntKind.i64.wrap (bits .and .i64 a 255 + 1)) 255 ≠ bits .and .i64 a 255 := by
    rw [and255 (IntKind.i64.wrap _), and255, wrapI (by omega) (by omega)]
    omega
  have e0 := nd_x hk
  have e1 := nd_z0 hk hw hne
  have e2 := nd_z1 hk hw hne
  have e3 := nd_z2 (i := ⟨3, ⟨1, 1⟩, bits .and .i64 1 255, false⟩) hk (by decide)
  have e4 := nd_z3 (t := ⟨0, false, 0⟩) hk (by decide)
  have y1 : nodeB ⟨false, ⟨bits .and .i64 a 255, [⟨bits .and .i64 (IntKind.i64.wrap (bits .and .i64 a 255 + 1)) 255, 0⟩], []⟩, [], []⟩ = false := nd_y rfl (by simp)
  have y2 : nodeB ⟨false, ⟨bits .and .i64 a 255, [], [bits .and .i64 (IntKind.i64.wrap (bits .and .i64 a 255 + 1)) 255]⟩, [], []⟩ = false := nd_y rfl (by simp)
  have y3 : nodeB ⟨false, ⟨bits .and .i64 a 255, [], []⟩, [⟨3, ⟨1, 1⟩, bits .and .i64 1 255, false⟩], []⟩ = false := nd_y rfl (by simp)
  have y4 : nodeB ⟨false, ⟨bits .and .i64 a 255, [], []⟩, [], [⟨0, false, 0⟩]⟩ = false := nd_y rfl (by simp)
  have hl : decide ((n100.items.length : Int) = 3) = true := by decide
  (repeat' (first | ((with_reducible refine body_intro ?_); (first | refine seq_intro (fun Kv hN hX hR => ?_) | (conv => whnf))) | with_reducible refine body_stop (fun Kv hN hX hR => ?_) | with_reducible refine Stop.mk ?_ | with_reducible refine DrawJ.each ?_ | with_reducible exact SubJ.self _ | with_reducible refine SubJ.of ?_ | with_reducible refine fill2_step (fun Kf hF => ?_) | with_reducible refine fill2_nil ?_ | with_reducible refine node2_step (fun Kg hG => ?_) | (with_reducible refine hF _ _ ?_; clear hF; clear Kf) | (with_reducible refine hG _ _ _ _ ?_; clear hG; clear Kg) | with_reducible refine seq_intro (fun Kv hN hX hR => ?_) | (with_reducible refine hN _ ?_; (try (clear hG; clear Kg)); clear hN hX hR; clear Kv) | (with_reducible refine hX _ _ ?_; (try (clear hG; clear Kg)); clear hN hX hR; clear Kv) | (with_reducible refine hR _ ?_; (try (clear hG; clear Kg)); clear hN hX hR; clear Kv) | ((conv => whnf); first | with_reducible rfl | with_reducible exact True.intro | with_reducible intro _ | with_reducible refine And.intro ?_ ?_ | (with_reducible refine hN _ ?_; (try (clear hG; clear Kg)); clear hN hX hR; clear Kv) | (with_reducible refine hX _ _ ?_; (try (clear hG; clear Kg)); clear hN hX hR; clear Kv) | (with_reducible refine hR _ ?_; (try (clear hG; clear Kg)); clear hN hX hR; clear Kv) | with_reducible refine body_stop (fun Kv hN hX hR => ?_) | with_reducible refine Stop.mk ?_ | with_reducible refine DrawJ.each ?_ | with_reducible exact SubJ.self _ | with_reducible refine SubJ.of ?_ | with_reducible refine fill2_step (fun Kf hF => ?_) | with_reducible refine fill2_nil ?_ | with_reducible refine node2_step (fun Kg hG => ?_) | (with_reducible refine hF _ _ ?_; clear hF; clear Kf) | (with_reducible refine hG _ _ _ _ ?_; clear hG; clear Kg)))); all_goals (conv => whnf); all_goals (repeat ((try (clear hG; clear Kg)); clear hN hX hR; clear Kv))
  all_goals first
    | exact hl
    | (refine Ob.mk ?_; decide)
    | (simp only [e0, e1, e2, e3, e4, y1, y2, y3, y4, decide_true, Bool.not_true, Bool.not_false, Bool.false_eq_true, Bool.true_eq_false, reduceCtorEq] at *
       done)
    | (simp_all
       done)
    | trace_state
end Go.Proofs.Ytaapoiikbolgnaa
