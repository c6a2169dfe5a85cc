/- The arguments of a row: their shapes. -/
import Derived.Test.YtmgccphapkmmeaaXT
namespace Go.Proofs.Ytmgccphapkmmeaa
open Go.RowKit

theorem shapeVer {z xs : List SV} (hz : z = [.int .i64 0, .int .i64 0]) (h : likeL z xs) : ∃ m : GVer, SV.agg xs = dVer.e m := by
  subst hz
  obtain ⟨x0, xs0, e0, l0, g0⟩ := likeL.cons_inv (show likeL (_ :: _) _ from h)
  obtain ⟨x1, xs1, e1, l1, g1⟩ := likeL.cons_inv (show likeL (_ :: _) _ from g0)
  have en := likeL.nil_inv (show likeL [] _ from g1)
  obtain ⟨a0, rfl⟩ := l0
  obtain ⟨a1, rfl⟩ := l1
  subst en
  subst e1
  subst e0
  exact ⟨⟨a0, a1⟩, rfl⟩
theorem shapePeer {z xs : List SV} (hz : z = [.int .i64 0, .int .i64 0]) (h : likeL z xs) : ∃ m : GPeer, SV.agg xs = dPeer.e m := by
  subst hz
  obtain ⟨x0, xs0, e0, l0, g0⟩ := likeL.cons_inv (show likeL (_ :: _) _ from h)
  obtain ⟨x1, xs1, e1, l1, g1⟩ := likeL.cons_inv (show likeL (_ :: _) _ from g0)
  have en := likeL.nil_inv (show likeL [] _ from g1)
  obtain ⟨a0, rfl⟩ := l0
  obtain ⟨a1, rfl⟩ := l1
  subst en
  subst e1
  subst e0
  exact ⟨⟨a0, a1⟩, rfl⟩
theorem shapeCut {z xs : List SV} (hz : z = [.int .i64 0, .int .i64 0]) (h : likeL z xs) : ∃ m : GCut, SV.agg xs = dCut.e m := by
  subst hz
  obtain ⟨x0, xs0, e0, l0, g0⟩ := likeL.cons_inv (show likeL (_ :: _) _ from h)
  obtain ⟨x1, xs1, e1, l1, g1⟩ := likeL.cons_inv (show likeL (_ :: _) _ from g0)
  have en := likeL.nil_inv (show likeL [] _ from g1)
  obtain ⟨a0, rfl⟩ := l0
  obtain ⟨a1, rfl⟩ := l1
  subst en
  subst e1
  subst e0
  exact ⟨⟨a0, a1⟩, rfl⟩
theorem shapeTold {z xs : List SV} (hz : z = [.int .i64 0, .bool false, .int .i64 0]) (h : likeL z xs) : ∃ m : GTold, SV.agg xs = dTold.e m := by
  subst hz
  obtain ⟨x0, xs0, e0, l0, g0⟩ := likeL.cons_inv (show likeL (_ :: _) _ from h)
  obtain ⟨x1, xs1, e1, l1, g1⟩ := likeL.cons_inv (show likeL (_ :: _) _ from g0)
  obtain ⟨x2, xs2, e2, l2, g2⟩ := likeL.cons_inv (show likeL (_ :: _) _ from g1)
  have en := likeL.nil_inv (show likeL [] _ from g2)
  obtain ⟨a0, rfl⟩ := l0
  obtain ⟨a1, rfl⟩ := l1
  obtain ⟨a2, rfl⟩ := l2
  subst en
  subst e2
  subst e1
  subst e0
  exact ⟨⟨a0, a1, a2⟩, rfl⟩
theorem shapeItem {z xs : List SV} (hz : z = [.int .i64 0, .int .i64 0, .int .i64 0, .int .i64 0, .bool false]) (h : likeL z xs) : ∃ m : GItem, SV.agg xs = dItem.e m := by
  subst hz
  obtain ⟨x0, xs0, e0, l0, g0⟩ := likeL.cons_inv (show likeL (_ :: _) _ from h)
  obtain ⟨x1, xs1, e1, l1, g1⟩ := likeL.cons_inv (show likeL (_ :: _) _ from g0)
  obtain ⟨x2, xs2, e2, l2, g2⟩ := likeL.cons_inv (show likeL (_ :: _) _ from g1)
  obtain ⟨x3, xs3, e3, l3, g3⟩ := likeL.cons_inv (show likeL (_ :: _) _ from g2)
  obtain ⟨x4, xs4, e4, l4, g4⟩ := likeL.cons_inv (show likeL (_ :: _) _ from g3)
  have en := likeL.nil_inv (show likeL [] _ from g4)
  obtain ⟨a0, rfl⟩ := l0
  obtain ⟨a1, rfl⟩ := l1
  obtain ⟨a2, rfl⟩ := l2
  obtain ⟨a3, rfl⟩ := l3
  obtain ⟨a4, rfl⟩ := l4
  subst en
  subst e4
  subst e3
  subst e2
  subst e1
  subst e0
  exact ⟨⟨a0, ⟨a1, a2⟩, a3, a4⟩, rfl⟩
theorem shapeMsg {z xs : List SV} (hz : z = [.int .i64 0, .int .i64 0, .int .i64 0, .nilS (mkEmpty 0), .int .i64 0, .int .i64 0, .int .i64 0, .int .i64 0, .int .i64 0, .bool false, .bool false]) (h : likeL z xs) : ∃ m : GMsg, SV.agg xs = dMsg.e m := by
  subst hz
  obtain ⟨x0, xs0, e0, l0, g0⟩ := likeL.cons_inv (show likeL (_ :: _) _ from h)
  obtain ⟨x1, xs1, e1, l1, g1⟩ := likeL.cons_inv (show likeL (_ :: _) _ from g0)
  obtain ⟨x2, xs2, e2, l2, g2⟩ := likeL.cons_inv (show likeL (_ :: _) _ from g1)
  obtain ⟨x3, xs3, e3, l3, g3⟩ := likeL.cons_inv (show likeL (_ :: _) _ from g2)
  obtain ⟨x4, xs4, e4, l4, g4⟩ := likeL.cons_inv (show likeL (_ :: _) _ from g3)
  obtain ⟨x5, xs5, e5, l5, g5⟩ := likeL.cons_inv (show likeL (_ :: _) _ from g4)
  obtain ⟨x6, xs6, e6, l6, g6⟩ := likeL.cons_inv (show likeL (_ :: _) _ from g5)
  obtain ⟨x7, xs7, e7, l7, g7⟩ := likeL.cons_inv (show likeL (_ :: _) _ from g6)
  obtain ⟨x8, xs8, e8, l8, g8⟩ := likeL.cons_inv (show likeL (_ :: _) _ from g7)
  obtain ⟨x9, xs9, e9, l9, g9⟩ := likeL.cons_inv (show likeL (_ :: _) _ from g8)
  obtain ⟨x10, xs10, e10, l10, g10⟩ := likeL.cons_inv (show likeL (_ :: _) _ from g9)
  have en := likeL.nil_inv (show likeL [] _ from g10)
  obtain ⟨a0, rfl⟩ := l0
  obtain ⟨a1, rfl⟩ := l1
  obtain ⟨a2, rfl⟩ := l2
  obtain ⟨q3, rfl, k3⟩ := l3
  obtain ⟨a3, rfl⟩ : ∃ l, q3 = .ints l := by cases q3 <;> first | exact ⟨_, rfl⟩ | (simp [Rw.kd, mkEmpty] at k3; done)
  obtain ⟨a4, rfl⟩ := l4
  obtain ⟨a5, rfl⟩ := l5
  obtain ⟨a6, rfl⟩ := l6
  obtain ⟨a7, rfl⟩ := l7
  obtain ⟨a8, rfl⟩ := l8
  obtain ⟨a9, rfl⟩ := l9
  obtain ⟨a10, rfl⟩ := l10
  subst en
  subst e10
  subst e9
  subst e8
  subst e7
  subst e6
  subst e5
  subst e4
  subst e3
  subst e2
  subst e1
  subst e0
  exact ⟨⟨a0, a1, a2, a3, a4, ⟨a5, ⟨a6, a7⟩, a8, a9⟩, a10⟩, rfl⟩
theorem shapeView {z xs : List SV} (hz : z = [.int .i64 0, .nilS (mkEmpty 3), .nilS (mkEmpty 0)]) (h : likeL z xs) : ∃ m : GView, SV.agg xs = dView.e m := by
  subst hz
  obtain ⟨x0, xs0, e0, l0, g0⟩ := likeL.cons_inv (show likeL (_ :: _) _ from h)
  obtain ⟨x1, xs1, e1, l1, g1⟩ := likeL.cons_inv (show likeL (_ :: _) _ from g0)
  obtain ⟨x2, xs2, e2, l2, g2⟩ := likeL.cons_inv (show likeL (_ :: _) _ from g1)
  have en := likeL.nil_inv (show likeL [] _ from g2)
  obtain ⟨a0, rfl⟩ := l0
  obtain ⟨q1, rfl, k1⟩ := l1
  obtain ⟨a1, rfl⟩ : ∃ l, q1 = .peers l := by cases q1 <;> first | exact ⟨_, rfl⟩ | (simp [Rw.kd, mkEmpty] at k1; done)
  obtain ⟨q2, rfl, k2⟩ := l2
  obtain ⟨a2, rfl⟩ : ∃ l, q2 = .ints l := by cases q2 <;> first | exact ⟨_, rfl⟩ | (simp [Rw.kd, mkEmpty] at k2; done)
  subst en
  subst e2
  subst e1
  subst e0
  exact ⟨⟨a0, a1, a2⟩, rfl⟩
theorem shapeNode {z xs : List SV} (hz : z = [.bool false, .int .i64 0, .nilS (mkEmpty 3), .nilS (mkEmpty 0), .nilS (mkEmpty 4), .nilS (mkEmpty 5)]) (h : likeL z xs) : ∃ m : GNode, SV.agg xs = dNode.e m := by
  subst hz
  obtain ⟨x0, xs0, e0, l0, g0⟩ := likeL.cons_inv (show likeL (_ :: _) _ from h)
  obtain ⟨x1, xs1, e1, l1, g1⟩ := likeL.cons_inv (show likeL (_ :: _) _ from g0)
  obtain ⟨x2, xs2, e2, l2, g2⟩ := likeL.cons_inv (show likeL (_ :: _) _ from g1)
  obtain ⟨x3, xs3, e3, l3, g3⟩ := likeL.cons_inv (show likeL (_ :: _) _ from g2)
  obtain ⟨x4, xs4, e4, l4, g4⟩ := likeL.cons_inv (show likeL (_ :: _) _ from g3)
  obtain ⟨x5, xs5, e5, l5, g5⟩ := likeL.cons_inv (show likeL (_ :: _) _ from g4)
  have en := likeL.nil_inv (show likeL [] _ from g5)
  obtain ⟨a0, rfl⟩ := l0
  obtain ⟨a1, rfl⟩ := l1
  obtain ⟨q2, rfl, k2⟩ := l2
  obtain ⟨a2, rfl⟩ : ∃ l, q2 = .peers l := by cases q2 <;> first | exact ⟨_, rfl⟩ | (simp [Rw.kd, mkEmpty] at k2; done)
  obtain ⟨q3, rfl, k3⟩ := l3
  obtain ⟨a3, rfl⟩ : ∃ l, q3 = .ints l := by cases q3 <;> first | exact ⟨_, rfl⟩ | (simp [Rw.kd, mkEmpty] at k3; done)
  obtain ⟨q4, rfl, k4⟩ := l4
  obtain ⟨a4, rfl⟩ : ∃ l, q4 = .items l := by cases q4 <;> first | exact ⟨_, rfl⟩ | (simp [Rw.kd, mkEmpty] at k4; done)
  obtain ⟨q5, rfl, k5⟩ := l5
  obtain ⟨a5, rfl⟩ : ∃ l, q5 = .tolds l := by cases q5 <;> first | exact ⟨_, rfl⟩ | (simp [Rw.kd, mkEmpty] at k5; done)
  subst en
  subst e5
  subst e4
  subst e3
  subst e2
  subst e1
  subst e0
  exact ⟨⟨a0, ⟨a1, a2, a3⟩, a4, a5⟩, rfl⟩
theorem shapeWorld {z xs : List SV} (hz : z = [.nilS (mkEmpty 8), .nilS (mkEmpty 6), .nilS (mkEmpty 7)]) (h : likeL z xs) : ∃ m : GWorld, SV.agg xs = dWorld.e m := by
  subst hz
  obtain ⟨x0, xs0, e0, l0, g0⟩ := likeL.cons_inv (show likeL (_ :: _) _ from h)
  obtain ⟨x1, xs1, e1, l1, g1⟩ := likeL.cons_inv (show likeL (_ :: _) _ from g0)
  obtain ⟨x2, xs2, e2, l2, g2⟩ := likeL.cons_inv (show likeL (_ :: _) _ from g1)
  have en := likeL.nil_inv (show likeL [] _ from g2)
  obtain ⟨q0, rfl, k0⟩ := l0
  obtain ⟨a0, rfl⟩ : ∃ l, q0 = .nodes l := by cases q0 <;> first | exact ⟨_, rfl⟩ | (simp [Rw.kd, mkEmpty] at k0; done)
  obtain ⟨q1, rfl, k1⟩ := l1
  obtain ⟨a1, rfl⟩ : ∃ l, q1 = .cuts l := by cases q1 <;> first | exact ⟨_, rfl⟩ | (simp [Rw.kd, mkEmpty] at k1; done)
  obtain ⟨q2, rfl, k2⟩ := l2
  obtain ⟨a2, rfl⟩ : ∃ l, q2 = .msgs l := by cases q2 <;> first | exact ⟨_, rfl⟩ | (simp [Rw.kd, mkEmpty] at k2; done)
  subst en
  subst e2
  subst e1
  subst e0
  exact ⟨⟨a0, a1, a2⟩, rfl⟩
theorem shapeAct {z xs : List SV} (hz : z = [.int .i64 0, .int .i64 0, .int .i64 0, .int .i64 0, .nilS (mkEmpty 0), .int .i64 0, .int .i64 0]) (h : likeL z xs) : ∃ m : GAct, SV.agg xs = dAct.e m := by
  subst hz
  obtain ⟨x0, xs0, e0, l0, g0⟩ := likeL.cons_inv (show likeL (_ :: _) _ from h)
  obtain ⟨x1, xs1, e1, l1, g1⟩ := likeL.cons_inv (show likeL (_ :: _) _ from g0)
  obtain ⟨x2, xs2, e2, l2, g2⟩ := likeL.cons_inv (show likeL (_ :: _) _ from g1)
  obtain ⟨x3, xs3, e3, l3, g3⟩ := likeL.cons_inv (show likeL (_ :: _) _ from g2)
  obtain ⟨x4, xs4, e4, l4, g4⟩ := likeL.cons_inv (show likeL (_ :: _) _ from g3)
  obtain ⟨x5, xs5, e5, l5, g5⟩ := likeL.cons_inv (show likeL (_ :: _) _ from g4)
  obtain ⟨x6, xs6, e6, l6, g6⟩ := likeL.cons_inv (show likeL (_ :: _) _ from g5)
  have en := likeL.nil_inv (show likeL [] _ from g6)
  obtain ⟨a0, rfl⟩ := l0
  obtain ⟨a1, rfl⟩ := l1
  obtain ⟨a2, rfl⟩ := l2
  obtain ⟨a3, rfl⟩ := l3
  obtain ⟨q4, rfl, k4⟩ := l4
  obtain ⟨a4, rfl⟩ : ∃ l, q4 = .ints l := by cases q4 <;> first | exact ⟨_, rfl⟩ | (simp [Rw.kd, mkEmpty] at k4; done)
  obtain ⟨a5, rfl⟩ := l5
  obtain ⟨a6, rfl⟩ := l6
  subst en
  subst e6
  subst e5
  subst e4
  subst e3
  subst e2
  subst e1
  subst e0
  exact ⟨⟨a0, a1, a2, a3, a4, a5, a6⟩, rfl⟩
theorem shapeInts {z xs : List SV} (hz : z = [.nilS (mkEmpty 0)]) (h : likeL z xs) : ∃ l : List Int, xs = [dInts.e l] := by
  subst hz
  obtain ⟨x0, xs0, e0, l0, g0⟩ := likeL.cons_inv (show likeL (_ :: _) _ from h)
  have en := likeL.nil_inv (show likeL [] _ from g0)
  obtain ⟨q0, rfl, k0⟩ := l0
  obtain ⟨a0, rfl⟩ : ∃ l, q0 = .ints l := by cases q0 <;> first | exact ⟨_, rfl⟩ | (simp [Rw.kd, mkEmpty] at k0; done)
  subst en
  subst e0
  exact ⟨a0, rfl⟩
theorem shapeBytes {z xs : List SV} (hz : z = [.nilS (mkEmpty 1)]) (h : likeL z xs) : ∃ l : List Int, xs = [dBytes.e l] := by
  subst hz
  obtain ⟨x0, xs0, e0, l0, g0⟩ := likeL.cons_inv (show likeL (_ :: _) _ from h)
  have en := likeL.nil_inv (show likeL [] _ from g0)
  obtain ⟨q0, rfl, k0⟩ := l0
  obtain ⟨a0, rfl⟩ : ∃ l, q0 = .bytes l := by cases q0 <;> first | exact ⟨_, rfl⟩ | (simp [Rw.kd, mkEmpty] at k0; done)
  subst en
  subst e0
  exact ⟨a0, rfl⟩
theorem shapeStrs {z xs : List SV} (hz : z = [.nilS (mkEmpty 2)]) (h : likeL z xs) : ∃ l : List ByteArray, xs = [dStrs.e l] := by
  subst hz
  obtain ⟨x0, xs0, e0, l0, g0⟩ := likeL.cons_inv (show likeL (_ :: _) _ from h)
  have en := likeL.nil_inv (show likeL [] _ from g0)
  obtain ⟨q0, rfl, k0⟩ := l0
  obtain ⟨a0, rfl⟩ : ∃ l, q0 = .strs l := by cases q0 <;> first | exact ⟨_, rfl⟩ | (simp [Rw.kd, mkEmpty] at k0; done)
  subst en
  subst e0
  exact ⟨a0, rfl⟩
theorem shapePeers {z xs : List SV} (hz : z = [.nilS (mkEmpty 3)]) (h : likeL z xs) : ∃ l : List GPeer, xs = [dPeers.e l] := by
  subst hz
  obtain ⟨x0, xs0, e0, l0, g0⟩ := likeL.cons_inv (show likeL (_ :: _) _ from h)
  have en := likeL.nil_inv (show likeL [] _ from g0)
  obtain ⟨q0, rfl, k0⟩ := l0
  obtain ⟨a0, rfl⟩ : ∃ l, q0 = .peers l := by cases q0 <;> first | exact ⟨_, rfl⟩ | (simp [Rw.kd, mkEmpty] at k0; done)
  subst en
  subst e0
  exact ⟨a0, rfl⟩
theorem shapeItems {z xs : List SV} (hz : z = [.nilS (mkEmpty 4)]) (h : likeL z xs) : ∃ l : List GItem, xs = [dItems.e l] := by
  subst hz
  obtain ⟨x0, xs0, e0, l0, g0⟩ := likeL.cons_inv (show likeL (_ :: _) _ from h)
  have en := likeL.nil_inv (show likeL [] _ from g0)
  obtain ⟨q0, rfl, k0⟩ := l0
  obtain ⟨a0, rfl⟩ : ∃ l, q0 = .items l := by cases q0 <;> first | exact ⟨_, rfl⟩ | (simp [Rw.kd, mkEmpty] at k0; done)
  subst en
  subst e0
  exact ⟨a0, rfl⟩
theorem shapeTolds {z xs : List SV} (hz : z = [.nilS (mkEmpty 5)]) (h : likeL z xs) : ∃ l : List GTold, xs = [dTolds.e l] := by
  subst hz
  obtain ⟨x0, xs0, e0, l0, g0⟩ := likeL.cons_inv (show likeL (_ :: _) _ from h)
  have en := likeL.nil_inv (show likeL [] _ from g0)
  obtain ⟨q0, rfl, k0⟩ := l0
  obtain ⟨a0, rfl⟩ : ∃ l, q0 = .tolds l := by cases q0 <;> first | exact ⟨_, rfl⟩ | (simp [Rw.kd, mkEmpty] at k0; done)
  subst en
  subst e0
  exact ⟨a0, rfl⟩
theorem shapeCuts {z xs : List SV} (hz : z = [.nilS (mkEmpty 6)]) (h : likeL z xs) : ∃ l : List GCut, xs = [dCuts.e l] := by
  subst hz
  obtain ⟨x0, xs0, e0, l0, g0⟩ := likeL.cons_inv (show likeL (_ :: _) _ from h)
  have en := likeL.nil_inv (show likeL [] _ from g0)
  obtain ⟨q0, rfl, k0⟩ := l0
  obtain ⟨a0, rfl⟩ : ∃ l, q0 = .cuts l := by cases q0 <;> first | exact ⟨_, rfl⟩ | (simp [Rw.kd, mkEmpty] at k0; done)
  subst en
  subst e0
  exact ⟨a0, rfl⟩
theorem shapeMsgs {z xs : List SV} (hz : z = [.nilS (mkEmpty 7)]) (h : likeL z xs) : ∃ l : List GMsg, xs = [dMsgs.e l] := by
  subst hz
  obtain ⟨x0, xs0, e0, l0, g0⟩ := likeL.cons_inv (show likeL (_ :: _) _ from h)
  have en := likeL.nil_inv (show likeL [] _ from g0)
  obtain ⟨q0, rfl, k0⟩ := l0
  obtain ⟨a0, rfl⟩ : ∃ l, q0 = .msgs l := by cases q0 <;> first | exact ⟨_, rfl⟩ | (simp [Rw.kd, mkEmpty] at k0; done)
  subst en
  subst e0
  exact ⟨a0, rfl⟩
theorem shapeNodes {z xs : List SV} (hz : z = [.nilS (mkEmpty 8)]) (h : likeL z xs) : ∃ l : List GNode, xs = [dNodes.e l] := by
  subst hz
  obtain ⟨x0, xs0, e0, l0, g0⟩ := likeL.cons_inv (show likeL (_ :: _) _ from h)
  have en := likeL.nil_inv (show likeL [] _ from g0)
  obtain ⟨q0, rfl, k0⟩ := l0
  obtain ⟨a0, rfl⟩ : ∃ l, q0 = .nodes l := by cases q0 <;> first | exact ⟨_, rfl⟩ | (simp [Rw.kd, mkEmpty] at k0; done)
  subst en
  subst e0
  exact ⟨a0, rfl⟩
theorem shapeActs {z xs : List SV} (hz : z = [.nilS (mkEmpty 9)]) (h : likeL z xs) : ∃ l : List GAct, xs = [dActs.e l] := by
  subst hz
  obtain ⟨x0, xs0, e0, l0, g0⟩ := likeL.cons_inv (show likeL (_ :: _) _ from h)
  have en := likeL.nil_inv (show likeL [] _ from g0)
  obtain ⟨q0, rfl, k0⟩ := l0
  obtain ⟨a0, rfl⟩ : ∃ l, q0 = .acts l := by cases q0 <;> first | exact ⟨_, rfl⟩ | (simp [Rw.kd, mkEmpty] at k0; done)
  subst en
  subst e0
  exact ⟨a0, rfl⟩
theorem agg_of {W : World} {z xs : List SV} {v : Value} (hz : 1 < z.length) (hl : likeL z xs) (h : L0 (vd0 E0 [] W) xs v.cells.toList) : vd3 E0 [] W (.agg xs) v := by
  have hlen : 1 < v.cells.toList.length := by rw [← h.1, ← hl.1]; exact hz
  cases v with
  | agg cs => exact ⟨cs.toList, by simp, (h.mono fun x u _ hp => old0_vd1 hp : L0 (vd1 E0 [] W) xs cs.toList)⟩
  | _ => simp [Value.cells] at hlen
theorem one_of {W : World} {x : SV} {A : Option Addr} {n c : Nat} (h : L0 (vd0 E0 [] W) [x] (Value.slice A n c).cells.toList) : vd3 E0 [] W x (.slice A n c) := by
  obtain ⟨u, us, e, h1, h2⟩ := h.inv_cons
  simp [Value.cells] at e
  rw [← e.1] at h1
  exact vd3_of_vd0 h1
end Go.Proofs.Ytmgccphapkmmeaa
