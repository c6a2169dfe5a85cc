/- A part of the proof of a law: F24c1, F24c2, F24c3, F24c4, F24c5, F24c6, F24c7, F24c8, F24c9, F24c10, F24d, G24a, G24aw, Lo, H24p. -/
import Derived.Test.YtjjpakdlkjaigaaGreatMB11
set_option linter.all false
set_option linter.unusedVariables false
set_option linter.unusedSimpArgs false
set_option linter.unusedSectionVars false
/- Contracts: an act of kind 1. -/
namespace Go.Proofs.YtjjpakdlkjaigaaGreat
open Go.RowKit
set_option maxRecDepth 20000
set_option maxHeartbeats 4000000 in
theorem m_Do1 (w : GWorld) (node other pick : Int) (ids : List Int) (key value : Int) : Meets Tryz.prog tau [] Tryz.f13 [dWorld.e w, dAct.e ⟨1, node, other, pick, ids, key, value⟩] (oDo w ⟨1, node, other, pick, ids, key, value⟩) := by
 refine fun hfit => ⟨rfl, _, ctx_tr t_dDeliver (ctx_cons k_worldMay (ctx_cons k_worldCopy (ctx_cons k_doerMay ctx_nil))), [], ?_⟩
 clear hfit
 refine V1 ?_; constructor <;> (first | (with_reducible exact TT.i) | (intros; (repeat (apply Wk.mk; intro Kv hN hX hR)); apply Wr.mk))
 all_goals (try simp only [etaWorld, etaNd, etaMsg, ndAt_fold, setNd_fold, decide_eq_true_eq, decide_eq_false_iff_not] at *)
 all_goals first
  | (rw [doW_no (.inl (nf aQ))] <;> rfl)
  | (rw [doW_no (.inr (nf aQ))] <;> rfl)
  | (have hw : worldB w = true := nt aQ
     have hr := base_rising (worldB_base.1 hw).1
     first
      | exact Ob.mk hr
      | (have ha := nt (show (!actB w ⟨1, node, other, pick, ids, key, value⟩) = false by with_reducible assumption)
         first
          | exact Ob.mk ⟨by decide, by decide⟩
          | (have h0 : w.packets.length = 0 := by
              have := (show (w.packets.length : Int) = 0 by with_reducible assumption)
              omega
             rw [do1_none hw ha rfl h0] <;> rfl)
          | (have h0 : ¬ w.packets.length = 0 := by
              have := (show ¬ (w.packets.length : Int) = 0 by with_reducible assumption)
              omega
             have hq : takeQ w.packets (pick.tmod (w.packets.length : Int)) = _ := take_of (a := ⟨1, node, other, pick, ids, key, value⟩) hw ha (by simp) h0
             simp only [hq] at *
             first
              | exact Ob.mk (by omega)
              | (obtain ⟨p1, p2, p3, p4⟩ := pack_facts (p := (pickP w ⟨1, node, other, pick, ids, key, value⟩)) hw (pickP_lt h0)
                 have hx := (ndX_at hr p3).1
                 unfold ndX at hx
                 first
                  | exact Ob.mk ⟨by unfold cntNd; omega, by unfold cntNd; omega⟩
                  | exact Ob.mk hr
                  | (have hc : (isCt w.cuts (w.packets.getD (pickP w ⟨1, node, other, pick, ids, key, value⟩) default).src (w.packets.getD (pickP w ⟨1, node, other, pick, ids, key, value⟩) default).dst).1 = true := by with_reducible assumption
                     rw [do1_cut hw ha rfl h0 hc] <;> rfl)
                  | (have hc : (isCt w.cuts (w.packets.getD (pickP w ⟨1, node, other, pick, ids, key, value⟩) default).src (w.packets.getD (pickP w ⟨1, node, other, pick, ids, key, value⟩) default).dst).1 = false := by with_reducible assumption
                     first
                      | (have h1 : (handleN (ndAt w.nodes (w.packets.getD (pickP w ⟨1, node, other, pick, ids, key, value⟩) default).dst) (w.packets.getD (pickP w ⟨1, node, other, pick, ids, key, value⟩) default)).2.2 = 0 := by with_reducible assumption
                         rw [do1_yes hw ha rfl h0 hc h1] <;> rfl)
                      | (have h1 : ¬ (handleN (ndAt w.nodes (w.packets.getD (pickP w ⟨1, node, other, pick, ids, key, value⟩) default).dst) (w.packets.getD (pickP w ⟨1, node, other, pick, ids, key, value⟩) default)).2.2 = 0 := by with_reducible assumption
                         rw [do1_no hw ha rfl h0 hc h1] <;> rfl))))))
end Go.Proofs.YtjjpakdlkjaigaaGreat

/- Contracts: an act of kind 2. -/
namespace Go.Proofs.YtjjpakdlkjaigaaGreat
open Go.RowKit
set_option maxRecDepth 20000
set_option maxHeartbeats 4000000 in
theorem m_Do2 (w : GWorld) (node other pick : Int) (ids : List Int) (key value : Int) : Meets Tryz.prog tau [] Tryz.f13 [dWorld.e w, dAct.e ⟨2, node, other, pick, ids, key, value⟩] (oDo w ⟨2, node, other, pick, ids, key, value⟩) := by
 refine fun hfit => ⟨rfl, _, ctx_tr t_dLose (ctx_cons k_worldMay (ctx_cons k_worldCopy (ctx_cons k_doerMay ctx_nil))), [], ?_⟩
 clear hfit
 refine V1 ?_; constructor <;> (first | (with_reducible exact TT.i) | (intros; (repeat (apply Wk.mk; intro Kv hN hX hR)); apply Wr.mk))
 all_goals (try simp only [etaWorld, etaNd, etaMsg, ndAt_fold, setNd_fold, decide_eq_true_eq, decide_eq_false_iff_not] at *)
 all_goals first
  | (rw [doW_no (.inl (nf aQ))] <;> rfl)
  | (rw [doW_no (.inr (nf aQ))] <;> rfl)
  | (have hw : worldB w = true := nt aQ
     have hr := base_rising (worldB_base.1 hw).1
     first
      | exact Ob.mk hr
      | (have ha := nt (show (!actB w ⟨2, node, other, pick, ids, key, value⟩) = false by with_reducible assumption)
         first
          | exact Ob.mk ⟨by decide, by decide⟩
          | (have h0 : w.packets.length = 0 := by
              have := (show (w.packets.length : Int) = 0 by with_reducible assumption)
              omega
             rw [do2_none hw ha rfl h0] <;> rfl)
          | (have h0 : ¬ w.packets.length = 0 := by
              have := (show ¬ (w.packets.length : Int) = 0 by with_reducible assumption)
              omega
             have hq : takeQ w.packets (pick.tmod (w.packets.length : Int)) = _ := take_of (a := ⟨2, node, other, pick, ids, key, value⟩) hw ha (by simp) h0
             simp only [hq] at *
             first
              | exact Ob.mk (by omega)
              | (rw [do2_yes hw ha rfl h0] <;> rfl))))
end Go.Proofs.YtjjpakdlkjaigaaGreat

/- Contracts: an act of kind 3. -/
namespace Go.Proofs.YtjjpakdlkjaigaaGreat
open Go.RowKit
set_option maxRecDepth 20000
set_option maxHeartbeats 4000000 in
theorem m_Do3 (w : GWorld) (node other pick : Int) (ids : List Int) (key value : Int) : Meets Tryz.prog tau [] Tryz.f13 [dWorld.e w, dAct.e ⟨3, node, other, pick, ids, key, value⟩] (oDo w ⟨3, node, other, pick, ids, key, value⟩) := by
 refine fun hfit => ⟨rfl, _, ctx_tr t_dTwice (ctx_cons k_worldMay (ctx_cons k_worldCopy (ctx_cons k_doerMay ctx_nil))), [], ?_⟩
 clear hfit
 refine V1 ?_; constructor <;> (first | (with_reducible exact TT.i) | (intros; (repeat (apply Wk.mk; intro Kv hN hX hR)); apply Wr.mk))
 all_goals (try simp only [etaWorld, etaNd, etaMsg, ndAt_fold, setNd_fold, decide_eq_true_eq, decide_eq_false_iff_not] at *)
 all_goals first
  | (rw [doW_no (.inl (nf aQ))] <;> rfl)
  | (rw [doW_no (.inr (nf aQ))] <;> rfl)
  | (have hw : worldB w = true := nt aQ
     have hr := base_rising (worldB_base.1 hw).1
     first
      | exact Ob.mk hr
      | (have ha := nt (show (!actB w ⟨3, node, other, pick, ids, key, value⟩) = false by with_reducible assumption)
         first
          | exact Ob.mk ⟨by decide, by decide⟩
          | (have h0 : w.packets.length = 0 := by
              have := (show (w.packets.length : Int) = 0 by with_reducible assumption)
              omega
             rw [do3_none hw ha rfl h0] <;> rfl)
          | (have h0 : ¬ w.packets.length = 0 := by
              have := (show ¬ (w.packets.length : Int) = 0 by with_reducible assumption)
              omega
             have hq : takeQ w.packets (pick.tmod (w.packets.length : Int)) = _ := take_of (a := ⟨3, node, other, pick, ids, key, value⟩) hw ha (by simp) h0
             simp only [hq] at *
             first
              | exact Ob.mk (by omega)
              | (rw [do3_yes hw ha rfl h0] <;> rfl))))
end Go.Proofs.YtjjpakdlkjaigaaGreat

/- Contracts: an act of kind 4. -/
namespace Go.Proofs.YtjjpakdlkjaigaaGreat
open Go.RowKit
set_option maxRecDepth 20000
set_option maxHeartbeats 4000000 in
theorem m_Do4 (w : GWorld) (node other pick : Int) (ids : List Int) (key value : Int) : Meets Tryz.prog tau [] Tryz.f13 [dWorld.e w, dAct.e ⟨4, node, other, pick, ids, key, value⟩] (oDo w ⟨4, node, other, pick, ids, key, value⟩) := by
 refine fun hfit => ⟨rfl, _, ctx_tr t_dCut (ctx_cons k_worldMay (ctx_cons k_worldCopy (ctx_cons k_doerMay ctx_nil))), [], ?_⟩
 clear hfit
 refine V1 ?_; constructor <;> (first | (with_reducible exact TT.i) | (intros; (repeat (apply Wk.mk; intro Kv hN hX hR)); apply Wr.mk))
 all_goals (try simp only [etaWorld, etaNd, etaMsg, ndAt_fold, setNd_fold, decide_eq_true_eq, decide_eq_false_iff_not] at *)
 all_goals first
  | (rw [doW_no (.inl (nf aQ))] <;> rfl)
  | (rw [doW_no (.inr (nf aQ))] <;> rfl)
  | (have hw : worldB w = true := nt aQ
     have hr := base_rising (worldB_base.1 hw).1
     first
      | exact Ob.mk hr
      | (have ha := nt (show (!actB w ⟨4, node, other, pick, ids, key, value⟩) = false by with_reducible assumption)
         first
          | exact Ob.mk ⟨by decide, by decide⟩
          | (have h0 : (withCt w.cuts node other).2 = 0 := by with_reducible assumption
             rw [do4_yes hw ha rfl h0] <;> rfl)
          | (have h0 : ¬ (withCt w.cuts node other).2 = 0 := by with_reducible assumption
             rw [do4_no hw ha rfl h0] <;> rfl)))
end Go.Proofs.YtjjpakdlkjaigaaGreat

/- Contracts: an act of kind 5. -/
namespace Go.Proofs.YtjjpakdlkjaigaaGreat
open Go.RowKit
set_option maxRecDepth 20000
set_option maxHeartbeats 4000000 in
theorem m_Do5 (w : GWorld) (node other pick : Int) (ids : List Int) (key value : Int) : Meets Tryz.prog tau [] Tryz.f13 [dWorld.e w, dAct.e ⟨5, node, other, pick, ids, key, value⟩] (oDo w ⟨5, node, other, pick, ids, key, value⟩) := by
 refine fun hfit => ⟨rfl, _, ctx_tr t_dHeal (ctx_cons k_worldMay (ctx_cons k_worldCopy (ctx_cons k_doerMay ctx_nil))), [], ?_⟩
 clear hfit
 refine V1 ?_; constructor <;> (first | (with_reducible exact TT.i) | (intros; (repeat (apply Wk.mk; intro Kv hN hX hR)); apply Wr.mk))
 all_goals (try simp only [etaWorld, etaNd, etaMsg, ndAt_fold, setNd_fold, decide_eq_true_eq, decide_eq_false_iff_not] at *)
 all_goals first
  | (rw [doW_no (.inl (nf aQ))] <;> rfl)
  | (rw [doW_no (.inr (nf aQ))] <;> rfl)
  | (have hw : worldB w = true := nt aQ
     have hr := base_rising (worldB_base.1 hw).1
     first
      | exact Ob.mk hr
      | (have ha := nt (show (!actB w ⟨5, node, other, pick, ids, key, value⟩) = false by with_reducible assumption)
         first
          | exact Ob.mk ⟨by decide, by decide⟩
          | (rw [do5 hw ha rfl] <;> rfl)))
end Go.Proofs.YtjjpakdlkjaigaaGreat

/- Contracts: an act of kind 6. -/
namespace Go.Proofs.YtjjpakdlkjaigaaGreat
open Go.RowKit
set_option maxRecDepth 20000
set_option maxHeartbeats 4000000 in
theorem m_Do6 (w : GWorld) (node other pick : Int) (ids : List Int) (key value : Int) : Meets Tryz.prog tau [] Tryz.f13 [dWorld.e w, dAct.e ⟨6, node, other, pick, ids, key, value⟩] (oDo w ⟨6, node, other, pick, ids, key, value⟩) := by
 refine fun hfit => ⟨rfl, _, ctx_tr t_dCrash (ctx_cons k_worldMay (ctx_cons k_worldCopy (ctx_cons k_doerMay ctx_nil))), [], ?_⟩
 clear hfit
 refine V1 ?_; constructor <;> (first | (with_reducible exact TT.i) | (intros; (repeat (apply Wk.mk; intro Kv hN hX hR)); apply Wr.mk))
 all_goals (try simp only [etaWorld, etaNd, etaMsg, ndAt_fold, setNd_fold, decide_eq_true_eq, decide_eq_false_iff_not] at *)
 all_goals first
  | (rw [doW_no (.inl (nf aQ))] <;> rfl)
  | (rw [doW_no (.inr (nf aQ))] <;> rfl)
  | (have hw : worldB w = true := nt aQ
     have hr := base_rising (worldB_base.1 hw).1
     first
      | exact Ob.mk hr
      | (have ha := nt (show (!actB w ⟨6, node, other, pick, ids, key, value⟩) = false by with_reducible assumption)
         first
          | exact Ob.mk ⟨by decide, by decide⟩
          | (have hid : isNd w.nodes node = true := act_node ha (by simp)
             have hx := (ndX_at hr hid).1
             unfold ndX at hx
             exact Ob.mk ⟨by unfold cntNd; omega, by unfold cntNd; omega⟩)
          | (rw [do6 hw ha rfl] <;> rfl)))
end Go.Proofs.YtjjpakdlkjaigaaGreat

/- Contracts: an act of kind 7. -/
namespace Go.Proofs.YtjjpakdlkjaigaaGreat
open Go.RowKit
set_option maxRecDepth 20000
set_option maxHeartbeats 4000000 in
theorem m_Do7 (w : GWorld) (node other pick : Int) (ids : List Int) (key value : Int) : Meets Tryz.prog tau [] Tryz.f13 [dWorld.e w, dAct.e ⟨7, node, other, pick, ids, key, value⟩] (oDo w ⟨7, node, other, pick, ids, key, value⟩) := by
 refine fun hfit => ⟨rfl, _, ctx_tr t_dStart (ctx_cons k_worldMay (ctx_cons k_worldCopy (ctx_cons k_doerMay ctx_nil))), [], ?_⟩
 clear hfit
 refine V1 ?_; constructor <;> (first | (with_reducible exact TT.i) | (intros; (repeat (apply Wk.mk; intro Kv hN hX hR)); apply Wr.mk))
 all_goals (try simp only [etaWorld, etaNd, etaMsg, ndAt_fold, setNd_fold, decide_eq_true_eq, decide_eq_false_iff_not] at *)
 all_goals first
  | (rw [doW_no (.inl (nf aQ))] <;> rfl)
  | (rw [doW_no (.inr (nf aQ))] <;> rfl)
  | (have hw : worldB w = true := nt aQ
     have hr := base_rising (worldB_base.1 hw).1
     first
      | exact Ob.mk hr
      | (have ha := nt (show (!actB w ⟨7, node, other, pick, ids, key, value⟩) = false by with_reducible assumption)
         first
          | exact Ob.mk ⟨by decide, by decide⟩
          | (have hid : isNd w.nodes node = true := act_node ha (by simp)
             have hx := (ndX_at hr hid).1
             unfold ndX at hx
             exact Ob.mk ⟨by unfold cntNd; omega, by unfold cntNd; omega⟩)
          | (rw [do7_down hw ha rfl (nf aQ)] <;> rfl)
          | (rw [do7_up hw ha rfl (nt aQ)] <;> rfl)))
end Go.Proofs.YtjjpakdlkjaigaaGreat

/- Contracts: an act of kind 8. -/
namespace Go.Proofs.YtjjpakdlkjaigaaGreat
open Go.RowKit
set_option maxRecDepth 20000
set_option maxHeartbeats 4000000 in
theorem m_Do8 (w : GWorld) (node other pick : Int) (ids : List Int) (key value : Int) : Meets Tryz.prog tau [] Tryz.f13 [dWorld.e w, dAct.e ⟨8, node, other, pick, ids, key, value⟩] (oDo w ⟨8, node, other, pick, ids, key, value⟩) := by
 refine fun hfit => ⟨rfl, _, ctx_tr t_dPut (ctx_cons k_worldMay (ctx_cons k_worldCopy (ctx_cons k_doerMay ctx_nil))), [], ?_⟩
 clear hfit
 refine V1 ?_; constructor <;> (first | (with_reducible exact TT.i) | (intros; (repeat (apply Wk.mk; intro Kv hN hX hR)); apply Wr.mk))
 all_goals (try simp only [etaWorld, etaNd, etaMsg, ndAt_fold, setNd_fold, decide_eq_true_eq, decide_eq_false_iff_not] at *)
 all_goals first
  | (rw [doW_no (.inl (nf aQ))] <;> rfl)
  | (rw [doW_no (.inr (nf aQ))] <;> rfl)
  | (have hw : worldB w = true := nt aQ
     have hr := base_rising (worldB_base.1 hw).1
     first
      | exact Ob.mk hr
      | (have ha := nt (show (!actB w ⟨8, node, other, pick, ids, key, value⟩) = false by with_reducible assumption)
         first
          | exact Ob.mk ⟨by decide, by decide⟩
          | (have hid : isNd w.nodes node = true := act_node ha (by simp)
             have hx := (ndX_at hr hid).1
             unfold ndX at hx
             exact Ob.mk ⟨by unfold cntNd; omega, by unfold cntNd; omega⟩)
          | (have h0 : (wroteN (ndAt w.nodes node) ⟨key, ⟨0, 0⟩, value, false⟩).2 = 0 := by with_reducible assumption
             rw [do8_yes hw ha rfl h0] <;> rfl)
          | (have h0 : ¬ (wroteN (ndAt w.nodes node) ⟨key, ⟨0, 0⟩, value, false⟩).2 = 0 := by with_reducible assumption
             rw [do8_no hw ha rfl h0] <;> rfl)))
end Go.Proofs.YtjjpakdlkjaigaaGreat

/- Contracts: an act of kind 9. -/
namespace Go.Proofs.YtjjpakdlkjaigaaGreat
open Go.RowKit
set_option maxRecDepth 20000
set_option maxHeartbeats 4000000 in
theorem m_Do9 (w : GWorld) (node other pick : Int) (ids : List Int) (key value : Int) : Meets Tryz.prog tau [] Tryz.f13 [dWorld.e w, dAct.e ⟨9, node, other, pick, ids, key, value⟩] (oDo w ⟨9, node, other, pick, ids, key, value⟩) := by
 refine fun hfit => ⟨rfl, _, ctx_tr t_dDrop (ctx_cons k_worldMay (ctx_cons k_worldCopy (ctx_cons k_doerMay ctx_nil))), [], ?_⟩
 clear hfit
 refine V1 ?_; constructor <;> (first | (with_reducible exact TT.i) | (intros; (repeat (apply Wk.mk; intro Kv hN hX hR)); apply Wr.mk))
 all_goals (try simp only [etaWorld, etaNd, etaMsg, ndAt_fold, setNd_fold, decide_eq_true_eq, decide_eq_false_iff_not] at *)
 all_goals first
  | (rw [doW_no (.inl (nf aQ))] <;> rfl)
  | (rw [doW_no (.inr (nf aQ))] <;> rfl)
  | (have hw : worldB w = true := nt aQ
     have hr := base_rising (worldB_base.1 hw).1
     first
      | exact Ob.mk hr
      | (have ha := nt (show (!actB w ⟨9, node, other, pick, ids, key, value⟩) = false by with_reducible assumption)
         first
          | exact Ob.mk ⟨by decide, by decide⟩
          | (have hid : isNd w.nodes node = true := act_node ha (by simp)
             have hx := (ndX_at hr hid).1
             unfold ndX at hx
             exact Ob.mk ⟨by unfold cntNd; omega, by unfold cntNd; omega⟩)
          | (have h0 : (wroteN (ndAt w.nodes node) ⟨key, ⟨0, 0⟩, 0, true⟩).2 = 0 := by with_reducible assumption
             rw [do9_yes hw ha rfl h0] <;> rfl)
          | (have h0 : ¬ (wroteN (ndAt w.nodes node) ⟨key, ⟨0, 0⟩, 0, true⟩).2 = 0 := by with_reducible assumption
             rw [do9_no hw ha rfl h0] <;> rfl)))
end Go.Proofs.YtjjpakdlkjaigaaGreat

/- Contracts: an act of kind 10. -/
namespace Go.Proofs.YtjjpakdlkjaigaaGreat
open Go.RowKit
set_option maxRecDepth 20000
set_option maxHeartbeats 4000000 in
theorem m_Do10 (w : GWorld) (node other pick : Int) (ids : List Int) (key value : Int) : Meets Tryz.prog tau [] Tryz.f13 [dWorld.e w, dAct.e ⟨10, node, other, pick, ids, key, value⟩] (oDo w ⟨10, node, other, pick, ids, key, value⟩) := by
 refine fun hfit => ⟨rfl, _, ctx_tr t_dGet (ctx_cons k_worldMay (ctx_cons k_worldCopy (ctx_cons k_doerMay ctx_nil))), [], ?_⟩
 clear hfit
 refine V1 ?_; constructor <;> (first | (with_reducible exact TT.i) | (intros; (repeat (apply Wk.mk; intro Kv hN hX hR)); apply Wr.mk))
 all_goals (try simp only [etaWorld, etaNd, etaMsg, ndAt_fold, setNd_fold, decide_eq_true_eq, decide_eq_false_iff_not] at *)
 all_goals first
  | (rw [doW_no (.inl (nf aQ))] <;> rfl)
  | (rw [doW_no (.inr (nf aQ))] <;> rfl)
  | (have hw : worldB w = true := nt aQ
     have hr := base_rising (worldB_base.1 hw).1
     first
      | exact Ob.mk hr
      | (have ha := nt (show (!actB w ⟨10, node, other, pick, ids, key, value⟩) = false by with_reducible assumption)
         first
          | exact Ob.mk ⟨by decide, by decide⟩
          | (have hid : isNd w.nodes node = true := act_node ha (by simp)
             have hx := (ndX_at hr hid).1
             unfold ndX at hx
             exact Ob.mk ⟨by unfold cntNd; omega, by unfold cntNd; omega⟩)
          | (have h0 : (askN (ndAt w.nodes node) key).2.2 = 0 := by with_reducible assumption
             rw [do10_yes hw ha rfl h0] <;> rfl)
          | (have h0 : ¬ (askN (ndAt w.nodes node) key).2.2 = 0 := by with_reducible assumption
             rw [do10_no hw ha rfl h0] <;> rfl)))
end Go.Proofs.YtjjpakdlkjaigaaGreat

/- Contracts: an act. -/
namespace Go.Proofs.YtjjpakdlkjaigaaGreat
open Go.RowKit
set_option maxRecDepth 20000
set_option maxHeartbeats 4000000 in
theorem m_DoX (w : GWorld) (kind node other pick : Int) (ids : List Int) (key value : Int) (hk : ¬ (0 ≤ kind ∧ kind ≤ 10)) : Meets Tryz.prog tau [] Tryz.f13 [dWorld.e w, dAct.e ⟨kind, node, other, pick, ids, key, value⟩] (oDo w ⟨kind, node, other, pick, ids, key, value⟩) := by
 have hno : actB w ⟨kind, node, other, pick, ids, key, value⟩ = false := by
  cases h : actB w ⟨kind, node, other, pick, ids, key, value⟩ with
  | false => rfl
  | true => exact absurd (act_kind h) hk
 have hno2 := doW_no (.inr hno)
 refine fun hfit => ⟨rfl, _, (ctx_cons k_worldMay (ctx_cons k_worldCopy (ctx_cons k_doerMay ctx_nil))), [], ?_⟩
 clear hfit
 refine V1 ?_; constructor <;> (first | (with_reducible exact TT.i) | (intros; (repeat (apply Wk.mk; intro Kv hN hX hR)); apply Wr.mk))
 all_goals (try simp only [etaWorld, etaNd, etaMsg] at *)
 all_goals first
  | (rw [hno2] <;> rfl)
  | (exfalso
     have h := nt (show (!actB w ⟨kind, node, other, pick, ids, key, value⟩) = false by with_reducible assumption)
     rw [hno] at h
     exact Bool.noConfusion h)
  | (have hw : worldB w = true := nt aQ
     exact Ob.mk (base_rising (worldB_base.1 hw).1))
theorem k_actDo : Known Tryz.prog tau 13 (S2 dWorld dAct oDo) := by
 refine knownX2 hmix tau_ok (fn := Tryz.f13) (by kernel_rfl) [] (by kernel_rfl) _ _ _ fun w a => ?_
 obtain ⟨kind, node, other, pick, ids, key, value⟩ := a
 by_cases hk : 0 ≤ kind ∧ kind ≤ 10
 · rcases kinds hk with rfl | rfl | rfl | rfl | rfl | rfl | rfl | rfl | rfl | rfl | rfl
   · exact m_Do0 w node other pick ids key value
   · exact m_Do1 w node other pick ids key value
   · exact m_Do2 w node other pick ids key value
   · exact m_Do3 w node other pick ids key value
   · exact m_Do4 w node other pick ids key value
   · exact m_Do5 w node other pick ids key value
   · exact m_Do6 w node other pick ids key value
   · exact m_Do7 w node other pick ids key value
   · exact m_Do8 w node other pick ids key value
   · exact m_Do9 w node other pick ids key value
   · exact m_Do10 w node other pick ids key value
 · exact m_DoX w kind node other pick ids key value hk
end Go.Proofs.YtjjpakdlkjaigaaGreat

/- Chapter 24: two nodes; awake. -/
namespace Go.Proofs.YtjjpakdlkjaigaaGreat
open Go.RowKit
set_option maxRecDepth 20000
theorem Known.narrow {P : Program} {τ : Tys} {f : FuncId} {sp sp' : Spec} (h : Known P τ f sp) (hs : ∀ args p, (sp args).good p → (sp' args).good p) : Known P τ f sp' :=
 ⟨h.enters, fun args vals w hv => hs args _ (h.valid args vals w hv)⟩
theorem narrow2 {P : Program} {τ : Tys} {f : FuncId} {α β : Type} {A : Dec α} {B : Dec β} {g g' : α → β → Out} (h : Known P τ f (S2 A B g)) (hs : ∀ x y p, (g x y).good p → (g' x y).good p) : Known P τ f (S2 A B g') :=
 h.narrow fun args p hp => by
  unfold S2 at hp ⊢
  split
  · split
    · rename_i x y a b hx hy
      simp only [hx, hy] at hp
      exact hs _ _ _ hp
    · trivial
  · trivial
theorem k_two24 : Known Tryz.prog tau 20 (S0 (.ok (.agg [.own 0, .row .new (.cuts []), .row .new (.msgs [])]) [.nodes [⟨true, ⟨3, [], [9]⟩, [⟨5, ⟨1, 3⟩, 7, false⟩], []⟩, ⟨true, ⟨9, [], []⟩, [], []⟩]])) := by
 refine known0 hmix tau_ok (ctx_cons k_refNewW ctx_nil) (fn := Tryz.f20) (by kernel_rfl) [] (by kernel_rfl) _ fun hfit => ⟨rfl, [], ?_⟩
 clear hfit
 refine V1 ?_; constructor <;> (first | (with_reducible exact TT.i) | (intros; (repeat (apply Wk.mk; intro Kv hN hX hR)); apply Wr.mk))
 all_goals (try simp only [aw24_new] at *)
 all_goals first
  | (refine Ob.mk ?_; decide)
  | rfl
def litW (p : Prop) (ns : List GNode) (ms : List GMsg) (e : Int) : Out := .ob p (.tup [.agg [.own 0, .own 1, .own 2], .int .i64 e]) [.nodes ns, .cuts [], .msgs ms]
theorem litW_good {w : GWorld} {a : GAct} {ns : List GNode} {ms : List GMsg} {e : Int} {p : SV → List Rw → Prop} (h : (oDo w a).good p) : (litW (doW w a = (⟨ns, [], ms⟩, e)) ns ms e).good p := fun h2 => by
 unfold oDo at h
 rw [h2] at h
 exact h
def oDo24 (w : GWorld) (a : GAct) : Out := match decide (a.kind = 0), decide (a.node = 3) with
 | true, true => litW (doW w a = (⟨[⟨true, ⟨3, [], [9]⟩, [⟨5, ⟨1, 3⟩, 7, false⟩], []⟩, ⟨true, ⟨9, [], []⟩, [], []⟩], [], [⟨0, 3, 9, [], 0, ⟨0, ⟨0, 0⟩, 0, false⟩, false⟩]⟩, 0)) [⟨true, ⟨3, [], [9]⟩, [⟨5, ⟨1, 3⟩, 7, false⟩], []⟩, ⟨true, ⟨9, [], []⟩, [], []⟩] [⟨0, 3, 9, [], 0, ⟨0, ⟨0, 0⟩, 0, false⟩, false⟩] 0
 | true, false => litW (doW w a = (⟨[], [], []⟩, 2400)) [] [] 2400
 | false, true => litW (doW w a = (⟨[⟨false, ⟨3, [], []⟩, [], []⟩, ⟨true, ⟨9, [], []⟩, [], []⟩], [], []⟩, 0)) [⟨false, ⟨3, [], []⟩, [], []⟩, ⟨true, ⟨9, [], []⟩, [], []⟩] [] 0
 | false, false => match decide (a.kind = 1), decide (a.kind = 2) with
   | true, _ => litW (doW w a = (⟨[⟨true, ⟨3, [], [9]⟩, [⟨5, ⟨1, 3⟩, 7, false⟩], []⟩, ⟨true, ⟨9, [⟨3, 0⟩], []⟩, [], []⟩], [], []⟩, 0)) [⟨true, ⟨3, [], [9]⟩, [⟨5, ⟨1, 3⟩, 7, false⟩], []⟩, ⟨true, ⟨9, [⟨3, 0⟩], []⟩, [], []⟩] [] 0
   | false, true => litW (doW w a = (⟨[⟨true, ⟨3, [], [9]⟩, [⟨5, ⟨1, 3⟩, 7, false⟩], []⟩, ⟨true, ⟨9, [], []⟩, [], []⟩], [], []⟩, 0)) [⟨true, ⟨3, [], [9]⟩, [⟨5, ⟨1, 3⟩, 7, false⟩], []⟩, ⟨true, ⟨9, [], []⟩, [], []⟩] [] 0
   | false, false => litW (doW w a = (⟨[], [], []⟩, 2400)) [] [] 2400
theorem k_actDo24 : Known Tryz.prog tau 13 (S2 dWorld dAct oDo24) := narrow2 k_actDo fun w a p h => by
 unfold oDo24
 split
 · exact litW_good h
 · exact litW_good h
 · exact litW_good h
 · split
   · exact litW_good h
   · exact litW_good h
   · exact litW_good h
end Go.Proofs.YtjjpakdlkjaigaaGreat

/- Chapter 24: awake. -/
namespace Go.Proofs.YtjjpakdlkjaigaaGreat
open Go.RowKit
set_option maxRecDepth 20000
set_option maxHeartbeats 4000000 in
set_option maxRecDepth 20000 in
theorem k_awake24 : Known Tryz.prog tau 19 (S0 (okB true)) := by
 refine known0 hmix tau_ok (ctx_cons k_two24 (ctx_cons k_actDo24 (ctx_cons k_Num (ctx_cons k_SamePeers (ctx_cons k_SameWorld (ctx_cons k_SameNode ctx_nil)))))) (fn := Tryz.f19) (by kernel_rfl) [(9, ((0, 0) :: (1, 1) :: (2, 2) :: (3, 4) :: (4, 8) :: (5, 16) :: (6, 32) :: (7, 64) :: (8, 192) :: (9, 320) :: (10, 576) :: (11, 1280) :: (12, 2048) :: (13, 6144) :: (14, 10240) :: (15, 18432) :: (16, 34816) :: (17, 67584) :: (18, 131072) :: (19, 393216) :: (20, 655360) :: (21, 1179648) :: (22, 2228224) :: (23, 4325376) :: (24, 131072) :: (25, 16908288) :: (26, 42074112) :: (27, 67239936) :: (28, 201326592) :: (29, 268435456) :: (30, 805306368) :: (31, 1342177280) :: (32, 2415919104) :: (33, 5368709120) :: (34, 8589934592) :: (35, 8589934592) :: (36, 60129542144) :: (37, 77309411328) :: (38, 206158430208) :: (39, 274877906944) :: (40, 824633720832) :: (41, 1374389534720) :: (42, 2473901162496) :: (43, 5497558138880) :: (44, 8796093022208) :: (45, 26388279066624) :: (46, 43980465111040) :: (47, 79164837199872) :: (48, 8796093022208) :: (49, 290271069732864) :: (50, 712483534798848) :: (51, 1134695999864832) :: (52, 3377699720527872) :: (53, 4503599627370496) :: (54, 13510798882111488) :: (55, 22517998136852480) :: (56, 40532396646334464) :: (57, 90071992547409920) :: (58, 144115188075855872) :: (59, 432345564227567616) :: (60, 720575940379279360) :: (61, 1297036692682702848) :: (62, 2882303761517117440) :: (63, 4611686018427387904) :: (64, 13835058055282163712) :: (65, 23058430092136939520) :: (66, 41505174165846491136) :: (67, 147573952589676412927) :: []))] (by kernel_rfl) _ fun hfit => ⟨rfl, [], ?_⟩
 clear hfit
 refine V5 ?_; constructor <;> (first | (with_reducible exact TT.i) | (intros; (repeat (apply Wk.mk; intro Kv hN hX hR)); apply Wr.mk))
 all_goals first
  | (with_reducible refine Ob.mk ?_
     first
      | exact aw24_1
      | exact aw24_2
      | exact aw24_3
      | exact aw24_4
      | exact aw24_5
      | exact aw24_6
      | decide)
  | (exfalso; rename_i h; revert h; decide)
  | rfl
end Go.Proofs.YtjjpakdlkjaigaaGreat

/- Contracts whose rows are told aS new ones, not aS one's own. -/
namespace Go.Proofs.YtjjpakdlkjaigaaGreat
open Go.RowKit
def lo0 (rows : List Rw) : SV → SV
 | .own i => match rows[i]? with
   | some r => .row .new r
   | none => .junk
 | .row t r => .row t r
 | .nilS r => .nilS r
 | .int k n => .int k n
 | .bool b => .bool b
 | .lit b => .lit b
 | .str s => .str s
 | _ => .junk
def lo2 (rows : List Rw) : SV → SV
 | .agg cs => .agg (cs.map (lo0 rows))
 | x => lo0 rows x
def lo3 (rows : List Rw) : SV → SV
 | .tup vs => .tup (vs.map (lo2 rows))
 | x => lo2 rows x
theorem L0.map {p q : SV → Value → Prop} {f : SV → SV} {cs : List SV} {us : List Value} (h : L0 p cs us) (hq : ∀ x u, p x u → q (f x) u) : L0 q (cs.map f) us :=
 ⟨by simp [h.1], fun j y hy => by
   rw [List.getElem?_map] at hy
   obtain ⟨x, hx, rfl⟩ := Option.map_eq_some_iff.1 hy
   obtain ⟨u, hu, hp⟩ := h.2 j x hx
   exact ⟨u, hu, hq x u hp⟩⟩
theorem lo0_up {E : Env} {w : World} {rows : List Rw} (x : SV) (u : Value) (h : vd0 E [] w (lo0 rows x) u) : vd1 E [] w (lo0 rows x) u ∧ vd2 E [] w (lo0 rows x) u ∧ vd3 E [] w (lo0 rows x) u := by
 cases x with
 | own i =>
   simp only [lo0] at h ⊢
   split
   · rename_i r hr
     rw [hr] at h
     exact ⟨h, h, h⟩
   · exact ⟨trivial, trivial, trivial⟩
 | _ => exact ⟨h, h, h⟩
theorem Res.loose {τ : Tys} {B : Nat} {w : World} {v : SV} {rows : List Rw} {z : Value} (h : Res τ B w v rows z) : Res τ B w (lo3 rows v) [] z := by
 obtain ⟨E, e1, e2, e3, e4, e5, e6⟩ := h.ex
 have hF : ∀ t g, E.F w t g → ({ E with ow := fun _ => False } : Env).F w t g := fun t g hg => ⟨fun h => h, hg.2⟩
 have k0 : ∀ x u, vd0 E (resRows rows 0) w x u → vd0 { E with ow := fun _ => False } [] w (lo0 rows x) u := by
  intro x u h
  cases x with
  | own i =>
    simp only [lo0]
    cases hi : rows[i]? with
    | none => trivial
    | some r =>
      simp only [vd0, lk_resRows, Nat.zero_le, if_true, Nat.sub_zero, hi, Option.map_some] at h
      subst h
      have hO := e4 i r hi
      obtain ⟨us, hrow, _⟩ := hO.row
      exact hO.read (fun g hg => ⟨fun h => h, (hrow.lt g hg).1, hO.unfz hg⟩) fun t g hg ht => by
       rcases ht with rfl | ht
       · exact hF _ g hg
       · exact absurd (Nat.le_refl _) ht
  | row t r => exact RowDen.mono h fun g hg _ => ⟨rfl, hF _ g hg⟩
  | nilS r => exact h
  | int k n => exact h
  | bool b => exact h
  | lit b => exact h
  | str s => exact h
  | _ => trivial
 have k1 : ∀ x u, vd1 E (resRows rows 0) w x u → vd1 { E with ow := fun _ => False } [] w (lo0 rows x) u := by
  intro x u h
  cases x with
  | clo f a c => trivial
  | int k n => exact (lo0_up (.int k n) u (k0 (.int k n) u h)).1
  | bool b => exact (lo0_up (.bool b) u (k0 (.bool b) u h)).1
  | lit b => exact (lo0_up (.lit b) u (k0 (.lit b) u h)).1
  | str s => exact (lo0_up (.str s) u (k0 (.str s) u h)).1
  | row t r => exact (lo0_up (.row t r) u (k0 (.row t r) u h)).1
  | nilS r => exact (lo0_up (.nilS r) u (k0 (.nilS r) u h)).1
  | pre t r n => exact (lo0_up (.pre t r n) u (k0 (.pre t r n) u h)).1
  | own k => exact (lo0_up (.own k) u (k0 (.own k) u h)).1
  | box k o => exact (lo0_up (.box k o) u (k0 (.box k o) u h)).1
  | pt t cs => exact (lo0_up (.pt t cs) u (k0 (.pt t cs) u h)).1
  | oel k i o => exact (lo0_up (.oel k i o) u (k0 (.oel k i o) u h)).1
  | junk => exact (lo0_up (.junk) u (k0 (.junk) u h)).1
  | agg cs => exact (lo0_up (.agg cs) u (k0 (.agg cs) u h)).1
  | tup cs => exact (lo0_up (.tup cs) u (k0 (.tup cs) u h)).1
 have k2 : ∀ x u, vd2 E (resRows rows 0) w x u → vd2 { E with ow := fun _ => False } [] w (lo2 rows x) u := by
  intro x u h
  cases x with
  | agg cs =>
    obtain ⟨us, hu, hl⟩ := h
    exact ⟨us, hu, hl.map k1⟩
  | clo f a c => trivial
  | int k n => exact (lo0_up (.int k n) u (k0 (.int k n) u h)).2.1
  | bool b => exact (lo0_up (.bool b) u (k0 (.bool b) u h)).2.1
  | lit b => exact (lo0_up (.lit b) u (k0 (.lit b) u h)).2.1
  | str s => exact (lo0_up (.str s) u (k0 (.str s) u h)).2.1
  | row t r => exact (lo0_up (.row t r) u (k0 (.row t r) u h)).2.1
  | nilS r => exact (lo0_up (.nilS r) u (k0 (.nilS r) u h)).2.1
  | pre t r n => exact (lo0_up (.pre t r n) u (k0 (.pre t r n) u h)).2.1
  | own k => exact (lo0_up (.own k) u (k0 (.own k) u h)).2.1
  | box k o => exact (lo0_up (.box k o) u (k0 (.box k o) u h)).2.1
  | pt t cs => exact (lo0_up (.pt t cs) u (k0 (.pt t cs) u h)).2.1
  | oel k i o => exact (lo0_up (.oel k i o) u (k0 (.oel k i o) u h)).2.1
  | junk => exact (lo0_up (.junk) u (k0 (.junk) u h)).2.1
  | tup cs => exact (lo0_up (.tup cs) u (k0 (.tup cs) u h)).2.1
 refine ⟨{ E with ow := fun _ => False }, e1, e2, fun g hg => hg.elim, fun i r hr => by simp at hr, fun i j ri rj g hr => by simp at hr, ?_⟩
 cases v with
 | tup vs =>
   obtain ⟨us, hu, hl⟩ := e6
   exact ⟨us, hu, hl.map k2⟩
 | agg cs =>
   obtain ⟨us, hu, hl⟩ := e6
   exact ⟨us, hu, hl.map k1⟩
 | clo f a c => trivial
 | int k n => exact (lo0_up (.int k n) z (k0 (.int k n) z e6)).2.2
 | bool b => exact (lo0_up (.bool b) z (k0 (.bool b) z e6)).2.2
 | lit b => exact (lo0_up (.lit b) z (k0 (.lit b) z e6)).2.2
 | str s => exact (lo0_up (.str s) z (k0 (.str s) z e6)).2.2
 | row t r => exact (lo0_up (.row t r) z (k0 (.row t r) z e6)).2.2
 | nilS r => exact (lo0_up (.nilS r) z (k0 (.nilS r) z e6)).2.2
 | pre t r n => exact (lo0_up (.pre t r n) z (k0 (.pre t r n) z e6)).2.2
 | own k => exact (lo0_up (.own k) z (k0 (.own k) z e6)).2.2
 | box k o => exact (lo0_up (.box k o) z (k0 (.box k o) z e6)).2.2
 | pt t cs => exact (lo0_up (.pt t cs) z (k0 (.pt t cs) z e6)).2.2
 | oel k i o => exact (lo0_up (.oel k i o) z (k0 (.oel k i o) z e6)).2.2
 | junk => exact (lo0_up (.junk) z (k0 (.junk) z e6)).2.2
def Out.loose : Out → Out
 | .ok v rows => .ok (lo3 rows v) []
 | .ob p v rows => .ob p (lo3 rows v) []
 | .bad => .bad
theorem Known.loose {P : Program} {τ : Tys} {f : FuncId} {sp : Spec} (h : Known P τ f sp) : Known P τ f fun args => (sp args).loose := by
 refine ⟨h.enters, fun args vals w hv => ?_⟩
 have h2 := h.valid args vals w hv
 cases e : sp args with
 | ok v rows =>
   rw [e] at h2
   exact Calls.mono h2 fun e w' ⟨z, a, b, c⟩ => ⟨z, a, b, c.loose⟩
 | ob p v rows =>
   rw [e] at h2
   exact fun hp => Calls.mono (h2 hp) fun e w' ⟨z, a, b, c⟩ => ⟨z, a, b, c.loose⟩
 | bad => trivial
theorem loose1 {P : Program} {τ : Tys} {f : FuncId} {α : Type} {A : Dec α} {g g' : α → Out} (h : Known P τ f (S1 A g)) (hs : ∀ x, (g x).loose = g' x) : Known P τ f (S1 A g') :=
 ⟨h.enters, fun args vals w hv => by
   have hp := h.loose.valid args vals w hv
   unfold S1 at hp ⊢
   split
   · split
     · rename_i x a hx
       simp only [hx] at hp
       rw [hs] at hp
       exact hp
     · trivial
   · trivial⟩
theorem loose2 {P : Program} {τ : Tys} {f : FuncId} {α β : Type} {A : Dec α} {B : Dec β} {g g' : α → β → Out} (h : Known P τ f (S2 A B g)) (hs : ∀ x y, (g x y).loose = g' x y) : Known P τ f (S2 A B g') :=
 ⟨h.enters, fun args vals w hv => by
   have hp := h.loose.valid args vals w hv
   unfold S2 at hp ⊢
   split
   · split
     · rename_i x y a b hx hy
       simp only [hx, hy] at hp
       rw [hs] at hp
       exact hp
     · trivial
   · trivial⟩
theorem loose3 {P : Program} {τ : Tys} {f : FuncId} {α β γ : Type} {A : Dec α} {B : Dec β} {C : Dec γ} {g g' : α → β → γ → Out} (h : Known P τ f (S3 A B C g)) (hs : ∀ x y u, (g x y u).loose = g' x y u) : Known P τ f (S3 A B C g') :=
 ⟨h.enters, fun args vals w hv => by
   have hp := h.loose.valid args vals w hv
   unfold S3 at hp ⊢
   split
   · split
     · rename_i x y u a b c hx hy hu
       simp only [hx, hy, hu] at hp
       rw [hs] at hp
       exact hp
     · trivial
   · trivial⟩
end Go.Proofs.YtjjpakdlkjaigaaGreat

/- Chapter 24: act.Do, its rows told aS new ones. -/
namespace Go.Proofs.YtjjpakdlkjaigaaGreat
open Go.RowKit
noncomputable def oDoL (w : GWorld) (a : GAct) : Out := .ok (.tup [.agg [.row .new (.nodes (doW w a).1.nodes), .row .new (.cuts (doW w a).1.cuts), .row .new (.msgs (doW w a).1.packets)], .int .i64 (doW w a).2]) []
theorem k_actDoL : Known Tryz.prog tau 13 (S2 dWorld dAct oDoL) := loose2 k_actDo fun _ _ => rfl
def pk (x : Int) (n : Nat) : Nat := (IntKind.u64.wrap x % (n : Int)).toNat
theorem pk_lt (x : Int) {n : Nat} (hn : 0 < n) : pk x n < n := by
 have h3 := Int.emod_nonneg (IntKind.u64.wrap x) (show (n : Int) ≠ 0 by omega)
 have h4 := Int.emod_lt_of_pos (IntKind.u64.wrap x) (show (0 : Int) < n by omega)
 unfold pk
 omega
theorem pk_eq (x : Int) {n : Nat} (hn : 0 < n) (hb : n ≤ 100000) : IntKind.i64.wrap ((IntKind.u64.wrap x).tmod (IntKind.u64.wrap (n : Int))) = (pk x n : Int) := by
 have h1 : IntKind.u64.wrap (n : Int) = n := by rw [wu64]; omega
 have h2 : 0 ≤ IntKind.u64.wrap x := by rw [wu64]; omega
 have h3 := Int.emod_nonneg (IntKind.u64.wrap x) (show (n : Int) ≠ 0 by omega)
 have h4 := Int.emod_lt_of_pos (IntKind.u64.wrap x) (show (0 : Int) < n by omega)
 rw [h1, tmod_pos h2, wrapI (by omega) (by omega)]
 unfold pk
 omega
end Go.Proofs.YtjjpakdlkjaigaaGreat
