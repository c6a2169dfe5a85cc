/- A part of the proof of ActTicks: F19d, H24b. -/
import Derived.Test.YtjjpakdlkjaigaaGreatMB12
set_option linter.all false
set_option linter.unusedVariables false
set_option linter.unusedSimpArgs false
set_option linter.unusedSectionVars false
/- Contracts: the document's: whose a key is; sharing; a node's turn. -/
namespace Go.Proofs.YtjjpakdlkjaigaaGreat
open Go.RowKit
set_option maxRecDepth 20000
set_option maxHeartbeats 1000000 in
theorem k_refOwnerOf : Known Tryz.prog tau 176 (S2 dInts dInt oOwn) := by
 refine known2 hmix tau_ok (ctx_cons k_refPlace (ctx_cons k_refPlaces (ctx_cons k_reffar ctx_nil))) (fn := Tryz.f176) (by kernel_rfl) [] (by kernel_rfl) _ _ _ fun l k hfit => ⟨rfl,
  [(5, invX (Nat × Int) [6, 7, 29, 30, 31, 32, 33, 34, 35, 36, 37, 38, 39, 40, 41, 42, 43, 44, 45, 46, 47, 48] [] (fun g => 1 ≤ g.1 ∧ g.1 ≤ l.length ∧ minP k (l.getD 0 0) (l.drop 1) = minP k g.2 (l.drop g.1)) (fun g => match g with
    | (i, b) => withS [(7, .int .i64 i), (6, .int .i64 b)]) (fun g => l.length - g.1))], ?_⟩
 clear hfit
 refine V2 ?_; constructor <;> (first | (with_reducible exact TT.i) | (intros; (repeat (apply Wk.mk; intro Kv hN hX hR)); apply Wr.mk))
 all_goals first
  | (have h := nf (show (!placeB k) = true by with_reducible assumption)
     rw [ownP_no (.inl (by unfold rowMayB; rw [h]; rfl))] <;> rfl)
  | (have h := nf (show (!l.all placeB) = true by with_reducible assumption)
     rw [ownP_no (.inl (by unfold rowMayB; rw [h]; simp))] <;> rfl)
  | (have h := of_decide_eq_true (show decide ((l.length : Int) = 0) = true by with_reducible assumption)
     rw [ownP_no (.inr (by omega))] <;> rfl)
  | (have h := of_decide_eq_true (show decide ((64 : Int) < (l.length : Nat)) = true by with_reducible assumption)
     rw [ownP_no (.inl (by unfold rowMayB; rw [decide_eq_false (show ¬ l.length ≤ 64 by omega)]; simp))] <;> rfl)
  | (have n1 := nt (show (!placeB k) = false by with_reducible assumption)
     have n2 := nt (show (!l.all placeB) = false by with_reducible assumption)
     have n3 := of_decide_eq_false (show decide ((l.length : Int) = 0) = false by with_reducible assumption)
     have n4 := of_decide_eq_false (show decide ((64 : Int) < (l.length : Nat)) = false by with_reducible assumption)
     have hy := ownP_yes (l := l) (k := k) (by unfold rowMayB; rw [n1, n2, decide_eq_true (show l.length ≤ 64 by omega)]; rfl) (by omega)
     first
      | exact Ob.mk ⟨by decide, by omega⟩
      | (refine ⟨(1, l.getD 0 0), ⟨Nat.le_refl _, by show 1 ≤ l.length; omega, rfl⟩, ?_⟩
         refine V1 ?_; constructor <;> (first | (with_reducible exact TT.i) | (intros; (repeat (apply Wk.mk; intro Kv hN hX hR)); apply Wr.mk))
         all_goals rfl)
      | (rintro ⟨i, b⟩ ⟨h1, h2, h3⟩
         dsimp only at h1 h2 h3
         refine V1 ?_; constructor <;> (first | (with_reducible exact TT.i) | (intros; (repeat (apply Wk.mk; intro Kv hN hX hR)); apply Wr.mk))
         all_goals (try dsimp only at *)
         all_goals (try simp only [Int.toNat_natCast] at *)
         all_goals first
          | exact Ob.mk ⟨by omega, of_decide_eq_true aQ⟩
          | (have h := of_decide_eq_true (show decide ((i : Int) < (l.length : Nat)) = true by with_reducible assumption)
             have e1 := minP_next (k := k) (b := b) (l := l) (i := i) (by omega)
             first
              | (have h4 := of_decide_eq_true (show decide (farI k (l.getD i 0) < farI k b) = true by with_reducible assumption)
                 rw [if_pos h4] at e1
                 refine ⟨(i + 1, l.getD i 0), ⟨by show 1 ≤ i + 1; omega, by show i + 1 ≤ l.length; omega, h3.trans e1⟩, by show l.length - (i + 1) < l.length - i; omega, ?_⟩
                 refine V1 ?_; constructor <;> (first | (with_reducible exact TT.i) | (intros; (repeat (apply Wk.mk; intro Kv hN hX hR)); apply Wr.mk))
                 all_goals first
                  | exact wrapI (by omega) (by omega)
                  | rfl)
              | (have h4 := of_decide_eq_false (show decide (farI k (l.getD i 0) < farI k b) = false by with_reducible assumption)
                 rw [if_neg h4] at e1
                 refine ⟨(i + 1, b), ⟨by show 1 ≤ i + 1; omega, by show i + 1 ≤ l.length; omega, h3.trans e1⟩, by show l.length - (i + 1) < l.length - i; omega, ?_⟩
                 refine V1 ?_; constructor <;> (first | (with_reducible exact TT.i) | (intros; (repeat (apply Wk.mk; intro Kv hN hX hR)); apply Wr.mk))
                 all_goals first
                  | exact wrapI (by omega) (by omega)
                  | rfl))
          | (have h := of_decide_eq_false (show decide ((i : Int) < (l.length : Nat)) = false by with_reducible assumption)
             rw [hy]
             first
              | done
              | rfl
              | rw [h3, minP_end (by omega)])))
theorem minP_spec {k : Int} : ∀ (l : List Int) (b : Int), minP k b l ∈ b :: l ∧ ∀ y ∈ b :: l, farI k (minP k b l) ≤ farI k y
 | [], b => ⟨List.mem_cons_self, fun y hy => by rw [List.mem_singleton.1 hy]; exact Int.le_refl _⟩
 | x :: l, b => by
   unfold minP
   have ih := minP_spec (k := k) l (if farI k x < farI k b then x else b)
   refine ⟨?_, fun y hy => ?_⟩
   · rcases List.mem_cons.1 ih.1 with h | h
     · rw [h]
       split
       · exact List.mem_cons_of_mem _ List.mem_cons_self
       · exact List.mem_cons_self
     · exact List.mem_cons_of_mem _ (List.mem_cons_of_mem _ h)
   · have h0 := ih.2 _ List.mem_cons_self
     have hb : farI k (if farI k x < farI k b then x else b) ≤ farI k b ∧ farI k (if farI k x < farI k b then x else b) ≤ farI k x := by split <;> omega
     rcases List.mem_cons.1 hy with h | hy
     · subst h
       exact Int.le_trans h0 hb.1
     · rcases List.mem_cons.1 hy with h | hy
       · subst h
         exact Int.le_trans h0 hb.2
       · exact ih.2 y (List.mem_cons_of_mem _ hy)
theorem ownP_spec {l : List Int} {k : Int} (h : rowMayB k l = true) (h2 : 0 < l.length) : (ownP l k).1 ∈ l ∧ ∀ y ∈ l, farI k (ownP l k).1 ≤ farI k y := by
 rw [ownP_yes h h2]
 cases l with
 | nil => simp at h2
 | cons x l => exact minP_spec l x
theorem ownP_perm {l l' : List Int} {k : Int} (h : rowMayB k l = true) (h2 : 0 < l.length) (h' : rowMayB k l' = true) (h2' : 0 < l'.length) (hm : ∀ x, x ∈ l ↔ x ∈ l') : (ownP l k).1 = (ownP l' k).1 := by
 obtain ⟨a1, a2⟩ := ownP_spec h h2
 obtain ⟨b1, b2⟩ := ownP_spec h' h2'
 have pl : ∀ x ∈ l, placeB x = true := by
  simp only [rowMayB, Bool.and_eq_true, List.all_eq_true] at h
  exact h.2.2
 have pk : placeB k = true := by
  simp only [rowMayB, Bool.and_eq_true] at h
  exact h.1
 have e1 := a2 _ ((hm _).2 b1)
 have e2 := b2 _ ((hm _).1 a1)
 exact (far_inj pk (pl _ a1) (pl _ ((hm _).2 b1))).1 (by omega)
theorem view_row {v : GView} {k : Int} (hv : viewB v = true) (hk : placeB k = true) : rowMayB k ([v.id] ++ namesP v.peers) = true ∧ rowMayB k (namesP v.peers ++ [v.id]) = true := by
 have h := viewB_iff.1 hv
 have hp := peersB_iff.1 h.1
 have hn := namesP_len v.peers
 have ha : (namesP v.peers).all placeB = true := by
  rw [List.all_eq_true]
  intro x hx
  unfold namesP at hx
  obtain ⟨p, h1, rfl⟩ := List.mem_map.1 hx
  have := hp.2.2.2 p h1
  unfold peerB at this
  simp only [Bool.and_eq_true] at this
  exact this.1
 unfold rowMayB
 constructor
 · rw [hk, List.all_append, ha, decide_eq_true (show ([v.id] ++ namesP v.peers).length ≤ 64 by rw [List.length_append, hn]; simp; omega)]
   simp [hp.1]
 · rw [hk, List.all_append, ha, decide_eq_true (show (namesP v.peers ++ [v.id]).length ≤ 64 by rw [List.length_append, hn]; simp; omega)]
   simp [hp.1]
theorem ownV_ref {v : GView} {k : Int} (hv : viewB v = true) (hk : placeB k = true) : (ownP ([v.id] ++ namesP v.peers) k).1 = (ownP (namesP v.peers ++ [v.id]) k).1 := by
 obtain ⟨h1, h2⟩ := view_row hv hk
 refine ownP_perm h1 (by simp) h2 (by simp) fun x => ?_
 simp only [List.mem_append]
 exact Or.comm
theorem k_refOwner : Known Tryz.prog tau 129 (S2 dView dInt oOwnV) := by
 refine known2 hmix tau_ok (ctx_cons k_refView (ctx_cons k_refPlace (ctx_cons k_refNames (ctx_cons k_refOwnerOf ctx_nil)))) (fn := Tryz.f129) (by kernel_rfl) [] (by kernel_rfl) _ _ _ fun v k hfit => ⟨rfl, [], ?_⟩
 have hp : v.peers.length * 16 ≤ 140737488355328 := hfit.1.2.1
 clear hfit
 refine V1 ?_; constructor <;> (first | (with_reducible exact TT.i) | (intros; (repeat (apply Wk.mk; intro Kv hN hX hR)); apply Wr.mk))
 all_goals (try simp only [etaView] at *)
 all_goals first
  | (rw [ownV_no (.inl (nf (show (!viewB v) = true by with_reducible assumption)))]; done)
  | (rw [ownV_no (.inr (nf (show (!placeB k) = true by with_reducible assumption)))]; done)
  | (have h : viewB v = true := nt aQ
     have h2 : placeB k = true := nt aQ
     have h3 := (viewB_iff.1 h).2.2.1
     first
      | (refine Ob.mk ?_
         simp only [Rw.len, Rw.bts, Rw.kd, kdBytes, namesP_len, List.length_cons, List.length_nil]
         omega)
      | (rw [ownV_def, if_pos ⟨h, h2⟩]
         first
          | done
          | rfl
          | exact ownV_ref h h2))
theorem names_0 (l : List GPeer) : (namesP l).getD 0 0 = (l.getD 0 default).id := by
 cases l <;> rfl
theorem k_refSucc : Known Tryz.prog tau 128 (S1 dView oSucc) := by
 refine known1 hmix tau_ok (ctx_cons k_refView ctx_nil) (fn := Tryz.f128) (by kernel_rfl) [] (by kernel_rfl) _ _ fun v hfit => ⟨rfl, [], ?_⟩
 clear hfit
 refine V1 ?_; constructor <;> (first | (with_reducible exact TT.i) | (intros; (repeat (apply Wk.mk; intro Kv hN hX hR)); apply Wr.mk))
 all_goals (try simp only [etaView] at *)
 all_goals first
  | (have h : viewB v = false := nf aQ
     rw [succV_def, if_neg (by rw [h]; simp)]
     done)
  | (have h : viewB v = true := nt aQ
     have h2 := of_decide_eq_true (show decide ((v.peers.length : Int) = 0) = true by with_reducible assumption)
     rw [succV_def, if_pos h, if_pos (by omega)]
     done)
  | (have h : viewB v = true := nt aQ
     have h2 := of_decide_eq_false (show decide ((v.peers.length : Int) = 0) = false by with_reducible assumption)
     first
      | exact Ob.mk ⟨by decide, by omega⟩
      | (rw [succV_def, if_pos h, if_neg (by omega)]
         first
          | done
          | rfl
          | exact (names_0 _).symm))
theorem k_upMay : Known Tryz.prog tau 67 (S1 dNode fun x => okB (x.up && nodeB x)) := by
 refine known1 hmix tau_ok (ctx_cons k_refNode ctx_nil) (fn := Tryz.f67) (by kernel_rfl) [] (by kernel_rfl) _ _ fun x hfit => ⟨rfl, [], ?_⟩
 clear hfit
 refine V1 ?_; constructor <;> (first | (with_reducible exact TT.i) | (intros; (repeat (apply Wk.mk; intro Kv hN hX hR)); apply Wr.mk))
 all_goals (try simp only [etaNode] at *)
 all_goals first
  | (have h : x.up = true := by with_reducible assumption
     rw [h]
     rfl)
  | (have h : x.up = false := by with_reducible assumption
     rw [h]
     rfl)
theorem k_refCopyNode : Known Tryz.prog tau 70 (S1 dNode fun x => .ok (.agg (nOwn4 x)) (nRows x)) := by
 refine known1 hmix tau_ok ctx_nil (fn := Tryz.f70) (by kernel_rfl) [] (by kernel_rfl) _ _ fun x hfit => ⟨rfl, [], ?_⟩
 have hp1 : x.view.peers.length * 16 ≤ 140737488355328 := hfit.1.2.2.1
 have hp2 : x.view.passive.length * 8 ≤ 140737488355328 := hfit.1.2.2.2.1
 have hp3 : x.items.length * 40 ≤ 140737488355328 := hfit.1.2.2.2.2.1
 have hp4 : x.log.length * 24 ≤ 140737488355328 := hfit.1.2.2.2.2.2.1
 clear hfit
 refine V1 ?_; constructor <;> (first | (with_reducible exact TT.i) | (intros; (repeat (apply Wk.mk; intro Kv hN hX hR)); apply Wr.mk))
 all_goals first
  | (refine Ob.mk ?_
     simp only [Rw.len, Rw.bts, Rw.kd, kdBytes, List.length_nil]
     omega)
  | rfl
set_option maxHeartbeats 2000000 in
theorem k_refShare : Known Tryz.prog tau 76 (S1 dNode oShare) := by
 refine known1 hmix tau_ok (ctx_cons k_upMay (ctx_cons k_refSucc (ctx_cons k_refOwner ctx_nil))) (fn := Tryz.f76) (by kernel_rfl) [(8, [(0, 0), (1, 1), (2, 0), (3, 4), (4, 0), (5, 24), (6, 32), (7, 64), (8, 130), (9, 256), (10, 512), (11, 512), (12, 2047), (13, 8191)]), (12, [(0, 0), (1, 0), (2, 2), (3, 4), (4, 0), (5, 0), (6, 32), (7, 0), (8, 192), (9, 256), (10, 536), (11, 1024), (12, 2049), (13, 8191)])] (by kernel_rfl) _ _ fun x hfit => ⟨rfl,
  [(6, invA Nat [(4, 61, 7)] (4 :: 7 :: 8 :: 9 :: 19 :: 20 :: 21 :: 22 :: 23 :: 24 :: 25 :: 26 :: 27 :: 28 :: 29 :: 30 :: 31 :: 32 :: 33 :: 34 :: 35 :: 36 :: 37 :: 38 :: 39 :: 40 :: 41 :: 42 :: 43 :: 44 :: 45 :: 46 :: 47 :: 48 :: 49 :: 50 :: 51 :: 52 :: 53 :: 54 :: 55 :: 56 :: 57 :: 58 :: 59 :: 60 :: 61 :: []) [] (fun i => i ≤ x.items.length) (fun i => fun st => withS [(7, .int .i64 i), (4, .own 61)] (withR [(61, .own (.msgs (shareL x.view (x.items.take i))))] st)) (fun i => x.items.length - i))], ?_⟩
 have hp : x.items.length * 40 ≤ 140737488355328 := hfit.1.2.2.2.2.1
 clear hfit
 refine V2 ?_; constructor <;> (first | (with_reducible exact TT.i) | (intros; (repeat (apply Wk.mk; intro Kv hN hX hR)); apply Wr.mk))
 all_goals first
  | (have h : (x.up && nodeB x) = false := nf aQ
     rw [shareN_def, if_neg (by rw [h]; simp)] <;> rfl)
  | (refine ⟨0, Nat.zero_le _, ?_⟩
     refine V1 ?_; constructor <;> (first | (with_reducible exact TT.i) | (intros; (repeat (apply Wk.mk; intro Kv hN hX hR)); apply Wr.mk))
     all_goals rfl)
  | (with_reducible intro i hi
     have hi : i ≤ x.items.length := hi
     have hB : (x.up && nodeB x) = true := nt aQ
     have hst := (storeB_iff.1 (by
      have := (Bool.and_eq_true _ _ ▸ hB).2
      unfold nodeB at this
      simp only [Bool.and_eq_true] at this
      exact this.2.1 : storeB x.items = true)).1
     have g2 := shareL_len x.view (x.items.take i)
     rw [List.length_take] at g2
     refine V1 ?_; constructor <;> (first | (with_reducible exact TT.i) | (intros; (repeat (apply Wk.mk; intro Kv hN hX hR)); apply Wr.mk))
     all_goals (try simp only [Int.toNat_natCast, etaView, etaItem] at *)
     all_goals first
      | exact Ob.mk ⟨by omega, of_decide_eq_true aQ⟩
      | (refine Ob.mk ?_
         simp only [Rw.len, Rw.bts, Rw.kd, kdBytes, List.length_cons, List.length_nil]
         omega)
      | (have h := of_decide_eq_true (show decide ((i : Int) < (x.items.length : Nat)) = true by with_reducible assumption)
         have e1 := shareL_succ (v := x.view) (l := x.items) (i := i) (by omega)
         have go : ∀ ys, shareL x.view (x.items.take (i + 1)) = shareL x.view (x.items.take i) ++ ys → shareL x.view (x.items.take i) ++ ys = shareL x.view (x.items.take (i + 1)) := fun ys h => h.symm
         first
          | (have h1 := of_decide_eq_true (show decide ((ownV x.view (x.items.getD i default).key).1 = x.view.id) = true by with_reducible assumption)
             have ht : toV x.view (x.items.getD i default).key = (succV x.view).1 := by unfold toV; rw [if_pos h1]
             rw [ht] at e1
             first
              | (have h2 := of_decide_eq_false (nf (show (!decide ((succV x.view).1 = x.view.id)) = true by with_reducible assumption))
                 rw [if_neg h2] at e1
                 refine ⟨i + 1, by omega, by omega, ?_⟩
                 refine V1 ?_; constructor <;> (first | (with_reducible exact TT.i) | (intros; (repeat (apply Wk.mk; intro Kv hN hX hR)); apply Wr.mk))
                 all_goals first
                  | exact wrapI (by omega) (by omega)
                  | exact congrArg Rw.msgs e1.symm
                  | rfl)
              | (have h2 := of_decide_eq_true (nt (show (!decide ((succV x.view).1 = x.view.id)) = false by with_reducible assumption))
                 rw [if_pos h2, List.append_nil] at e1
                 refine ⟨i + 1, by omega, by omega, ?_⟩
                 refine V1 ?_; constructor <;> (first | (with_reducible exact TT.i) | (intros; (repeat (apply Wk.mk; intro Kv hN hX hR)); apply Wr.mk))
                 all_goals first
                  | exact wrapI (by omega) (by omega)
                  | exact congrArg Rw.msgs e1.symm
                  | rfl))
          | (have h1 := of_decide_eq_false (show decide ((ownV x.view (x.items.getD i default).key).1 = x.view.id) = false by with_reducible assumption)
             have ht : toV x.view (x.items.getD i default).key = (ownV x.view (x.items.getD i default).key).1 := by unfold toV; rw [if_neg h1]
             rw [ht, if_neg h1] at e1
             first
              | exact absurd (of_decide_eq_true (nt (show (!decide ((ownV x.view (x.items.getD i default).key).1 = x.view.id)) = false by with_reducible assumption))) h1
              | (refine ⟨i + 1, by omega, by omega, ?_⟩
                 refine V1 ?_; constructor <;> (first | (with_reducible exact TT.i) | (intros; (repeat (apply Wk.mk; intro Kv hN hX hR)); apply Wr.mk))
                 all_goals first
                  | exact wrapI (by omega) (by omega)
                  | exact congrArg Rw.msgs e1.symm
                  | rfl)))
      | (have h := of_decide_eq_false (show decide ((i : Int) < (x.items.length : Nat)) = false by with_reducible assumption)
         rw [shareN_def, if_pos hB]
         first
          | done
          | rfl
          | rw [List.take_of_length_le (by omega)]))
set_option maxHeartbeats 4000000 in
theorem k_refTick : Known Tryz.prog tau 31 (S1 dNode oTick) := by
 refine known1 hmix tau_ok (ctx_cons k_upMay (ctx_cons k_refCopyNode (ctx_cons k_refAgeView (ctx_cons k_refNames (ctx_cons k_refShare ctx_nil))))) (fn := Tryz.f31) (by kernel_rfl) [(10, [(0, 0), (1, 0), (2, 2), (3, 0), (4, 0), (5, 24), (6, 32), (7, 0), (8, 128), (9, 256), (10, 580), (11, 1024), (12, 2561), (13, 8191)])] (by kernel_rfl) _ _ fun x hfit => ⟨rfl,
  [(8, invA Nat [(9, 46, 7)] [9, 10, 28, 29, 30, 31, 32, 33, 34, 35, 36, 37, 38, 39, 40, 41, 42, 43, 44, 45, 46] [] (fun i => i ≤ (tickV x.view).2.1.length) (fun i => fun st => withS [(10, .int .i64 i), (9, .own 46)] (withR [(46, .own (.msgs (helloL (tickV x.view).1 ((tickV x.view).2.1.take i))))] st)) (fun i => (tickV x.view).2.1.length - i))], ?_⟩
 have hp : x.items.length * 40 ≤ 140737488355328 := hfit.1.2.2.2.2.1
 clear hfit
 refine V2 ?_; constructor <;> (first | (with_reducible exact TT.i) | (intros; (repeat (apply Wk.mk; intro Kv hN hX hR)); apply Wr.mk))
 all_goals first
  | (have h : (x.up && nodeB x) = false := nf aQ
     rw [tickN_def, if_neg (by rw [h]; simp)] <;> rfl)
  | (refine ⟨0, Nat.zero_le _, ?_⟩
     refine V1 ?_; constructor <;> (first | (with_reducible exact TT.i) | (intros; (repeat (apply Wk.mk; intro Kv hN hX hR)); apply Wr.mk))
     all_goals rfl)
  | (with_reducible intro i hi
     have hi : i ≤ (tickV x.view).2.1.length := hi
     have hB : (x.up && nodeB x) = true := nt aQ
     obtain ⟨b1, b2, b3, b4⟩ := up_view hB
     have t := tick_ok b3
     have tl := congrArg List.length t.2.2.2.2.1
     rw [List.length_append, namesP_len, ← t.2.2.1] at tl
     have t16 := (viewB_iff.1 t.1).2.2.1
     have s16 := (storeB_iff.1 b4).1
     have g3 := shareN_len ⟨x.up, (tickV x.view).1, x.items, x.log⟩
     have htn := (tickN_def x).trans (if_pos hB)
     refine V1 ?_; constructor <;> (first | (with_reducible exact TT.i) | (intros; (repeat (apply Wk.mk; intro Kv hN hX hR)); apply Wr.mk))
     all_goals (try simp only [Int.toNat_natCast, etaView, etaNode] at *)
     all_goals first
      | exact Ob.mk ⟨by omega, of_decide_eq_true aQ⟩
      | (refine Ob.mk ?_
         simp only [Rw.len, Rw.bts, Rw.kd, kdBytes, List.length_cons, List.length_nil, helloL_len, List.length_take]
         omega)
      | (have h := of_decide_eq_true (show decide ((i : Int) < ((tickV x.view).2.1.length : Nat)) = true by with_reducible assumption)
         have e1 := helloL_succ (v := (tickV x.view).1) (l := (tickV x.view).2.1) (i := i) (by omega)
         refine ⟨i + 1, by omega, by omega, ?_⟩
         refine V1 ?_; constructor <;> (first | (with_reducible exact TT.i) | (intros; (repeat (apply Wk.mk; intro Kv hN hX hR)); apply Wr.mk))
         all_goals first
          | exact wrapI (by omega) (by omega)
          | exact congrArg Rw.msgs e1.symm
          | rfl)
      | (have h := of_decide_eq_false (show decide ((i : Int) < ((tickV x.view).2.1.length : Nat)) = false by with_reducible assumption)
         rw [htn]
         first
          | done
          | rfl
          | rw [List.take_of_length_le (by omega)]))
end Go.Proofs.YtjjpakdlkjaigaaGreat

/- Chapter 24: nodes tick, in whatever row. -/
namespace Go.Proofs.YtjjpakdlkjaigaaGreat
open Go.RowKit
set_option maxRecDepth 20000
noncomputable def oTickL (x : GNode) : Out := .ok (.tup [.agg [.bool (tickN x).1.up, .int .i64 (tickN x).1.view.id, .row .new (.peers (tickN x).1.view.peers), .row .new (.ints (tickN x).1.view.passive), .row .new (.items (tickN x).1.items), .row .new (.tolds (tickN x).1.log)], .row .new (.msgs (tickN x).2.1), .int .i64 (tickN x).2.2]) []
theorem k_refTickL : Known Tryz.prog tau 31 (S1 dNode oTickL) := loose1 k_refTick fun _ => rfl
noncomputable def tickTo (a : GWorld) (k : Nat) : GWorld := (doW a ⟨0, (a.nodes.getD k default).view.id, 0, 0, [], 0, 0⟩).1
theorem actT {w : GWorld} {k : Nat} (hk : k < w.nodes.length) : actB w ⟨0, (w.nodes.getD k default).view.id, 0, 0, [], 0, 0⟩ = true := by
 have h := isNd_mem (getD_mem (d := default) hk)
 unfold actB
 rw [if_neg (by simp), if_neg (by simp)]
 simp only [h, Bool.true_and]
 rfl
theorem tickTo_do {a : GWorld} {k : Nat} (hw : worldB a = true) (hk : k < a.nodes.length) : doW a ⟨0, (a.nodes.getD k default).view.id, 0, 0, [], 0, 0⟩ = (tickTo a k, 0) ∧ worldB (tickTo a k) = true := by
 have ha := actT hk
 have e := doW_yes hw ha
 have h := step_may hw ha
 unfold tickTo
 rw [e]
 exact ⟨rfl, h⟩
theorem tickTo_nodes {a : GWorld} {k : Nat} (hw : worldB a = true) (hk : k < a.nodes.length) :
  (tickTo a k).nodes = (if (a.nodes.getD k default).up = true then a.nodes.set k (tickN (a.nodes.getD k default)).1 else a.nodes) ∧ ((a.nodes.getD k default).up = true → (tickN (a.nodes.getD k default)).2.2 = 0) ∧ (tickTo a k).nodes.map (fun x => x.view.id) = a.nodes.map fun x => x.view.id := by
 have ha := actT hk
 have e := doW_yes hw ha
 have hr := base_rising (worldB_base.1 hw).1
 have hx : ndX a.nodes (a.nodes.getD k default).view.id = k := ndX_of hr hk
 have hid := isNd_mem (getD_mem (d := default) hk)
 have hat : ndAt a.nodes (a.nodes.getD k default).view.id = a.nodes.getD k default := by unfold ndAt; rw [hx]
 have hn := world_node hw hid
 rw [hat] at hn
 have e2 : actW a ⟨0, (a.nodes.getD k default).view.id, 0, 0, [], 0, 0⟩ = tickW a (a.nodes.getD k default).view.id := actW_0 rfl
 unfold tickTo
 rw [e, e2]
 unfold tickW
 rw [hat]
 by_cases hu : (a.nodes.getD k default).up = true
 · have f := tick_facts (up_iff.2 ⟨hu, hn.2.2.1⟩)
   rw [if_pos hu, if_pos hu]
   have es : (turnW a (a.nodes.getD k default).view.id (tickN (a.nodes.getD k default)).1 (tickN (a.nodes.getD k default)).2.1).nodes = setNd a.nodes (a.nodes.getD k default).view.id (tickN (a.nodes.getD k default)).1 := rfl
   refine ⟨by rw [es]; unfold setNd; rw [hx], fun _ => f.1, ?_⟩
   rw [es]
   exact setNd_ids hr hid f.2.2.1
 · rw [if_neg hu, if_neg hu]
   exact ⟨rfl, fun h => absurd h hu, rfl⟩
theorem ids_len {l l' : List GNode} (h : l.map (fun x => x.view.id) = l'.map fun x => x.view.id) : l.length = l'.length := by
 have := congrArg List.length h
 simpa using this
theorem ids_at {l l' : List GNode} (h : l.map (fun x => x.view.id) = l'.map fun x => x.view.id) (k : Nat) : (l.getD k default).view.id = (l'.getD k default).view.id := by
 have e := congrArg (fun q : List Int => q[k]?) h
 simp only [List.getElem?_map] at e
 rw [List.getD_eq_getElem?_getD, List.getD_eq_getElem?_getD]
 cases h1 : l[k]? <;> cases h2 : l'[k]? <;> rw [h1, h2] at e <;> simp at e ⊢
 exact e
theorem tick_step {w a : GWorld} {k : Nat} (ja : worldB a = true) (jm : a.nodes.map (fun x => x.view.id) = w.nodes.map fun x => x.view.id) (hk : k < w.nodes.length) : doW a ⟨0, (w.nodes.getD k default).view.id, 0, 0, [], 0, 0⟩ = (tickTo a k, 0) := by
 rw [← ids_at jm]
 exact (tickTo_do ja (by rw [ids_len jm]; exact hk)).1
noncomputable def cpyN (l : List GNode) (i : Nat) : List GNode := Classical.choose (seal_ex (l.take i ++ List.replicate (l.length - i) default))
theorem cpyN_def (l : List GNode) (i : Nat) : cpyN l i = l.take i ++ List.replicate (l.length - i) default := Classical.choose_spec (seal_ex _)
theorem cpyN_len {l : List GNode} {i : Nat} (h : i ≤ l.length) : (cpyN l i).length = l.length := by rw [cpyN_def, List.length_append, List.length_take, List.length_replicate]; omega
theorem cpyN_zero (l : List GNode) : cpyN l 0 = List.replicate l.length default := by rw [cpyN_def, List.take_zero, List.nil_append, Nat.sub_zero]
theorem cpyN_end {l : List GNode} {i : Nat} (h : i ≤ l.length) (h2 : ¬ i < l.length) : cpyN l i = l := by
 obtain rfl : i = l.length := by omega
 rw [cpyN_def, Nat.sub_self, List.replicate_zero, List.append_nil, List.take_length]
theorem cpyN_set {l : List GNode} {i : Nat} (h : i < l.length) : (cpyN l i).set i (l.getD i default) = cpyN l (i + 1) := by
 rw [cpyN_def, cpyN_def, List.set_append_right _ _ (by rw [List.length_take]; omega), List.length_take, Nat.min_eq_left (by omega), Nat.sub_self, show l.length - i = (l.length - (i + 1)) + 1 by omega, List.replicate_succ, List.set_cons_zero, List.take_succ_eq_append_getElem h, List.append_assoc]
 simp [List.getD_eq_getElem?_getD, h]
set_option maxHeartbeats 8000000 in
theorem k_ActTicks : Known Tryz.prog tau 10 (S2 dWorld dInts fun w rs => okB true) := by
 refine known2 hmix tau_ok (ctx_cons k_awake24 (ctx_cons k_two24 (ctx_cons k_refWorldMay (ctx_cons k_actDoL (ctx_cons k_refTickL (ctx_cons k_Num (ctx_cons k_SameNode ctx_nil))))))) (fn := Tryz.f10) (by kernel_rfl) [(14, [(0, 0), (1, 0), (2, 3), (3, 4), (4, 8), (5, 0), (6, 32), (7, 64), (8, 128), (9, 272), (10, 512), (11, 2047)]), (15, [(0, 0), (1, 0), (2, 2), (3, 0), (4, 12), (5, 16), (6, 32), (7, 64), (8, 128), (9, 257), (10, 512), (11, 1024), (12, 1024), (13, 0), (14, 12287), (15, 32767)]), (27, [(0, 0), (1, 1), (2, 0), (3, 6), (4, 8), (5, 0), (6, 0), (7, 96), (8, 128), (9, 272), (10, 512)])] (by kernel_rfl) _ _ _ fun w rs hfit => ⟨rfl,
  [(8, invX Nat [7, 26, 27, 28, 29, 30, 31, 32, 33, 34, 35, 36, 37, 38, 39, 40] [25] (fun i => i ≤ w.nodes.length) (fun i => match i with
    | 0 => fun st => withS [(7, .int .i64 0)] (withR [(25, .own (.nodes (cpyN w.nodes 0)))] st)
    | i + 1 => fun st => withS [(7, .int .i64 ((i + 1 : Nat) : Int))] (withR [(25, .part 0 (.nodes (cpyN w.nodes (i + 1))))] st)) (fun i => w.nodes.length - i)),
   (12, invX (Nat × GWorld × Nat) (4 :: 8 :: 9 :: 10 :: 11 :: 12 :: 13 :: 14 :: 41 :: 42 :: 43 :: 44 :: 45 :: 46 :: 47 :: 48 :: 49 :: 50 :: 51 :: 52 :: 53 :: 54 :: 55 :: 56 :: 57 :: 58 :: 59 :: 60 :: 61 :: 62 :: 63 :: 64 :: 65 :: 66 :: 67 :: 68 :: 69 :: 70 :: 71 :: 72 :: 73 :: 74 :: 75 :: 76 :: 77 :: 78 :: 79 :: 80 :: 81 :: 82 :: 83 :: 84 :: 85 :: 86 :: 87 :: 88 :: 89 :: 90 :: 91 :: 92 :: 93 :: 94 :: 95 :: 96 :: 97 :: 98 :: 99 :: 100 :: 101 :: 102 :: 103 :: 104 :: 105 :: 106 :: 107 :: []) [25, 5] (fun g => g.1 ≤ rs.length ∧ g.1 ≤ 10 ∧ worldB g.2.1 = true ∧ g.2.1.nodes.map (fun x => x.view.id) = w.nodes.map fun x => x.view.id) (fun g => match g with
    | (i, a, lo) => fun st => withS [(8, .int .i64 (i : Int))] (withR [(25, .part lo (.nodes a.nodes))] (withB [(5, (26, [.row .any (.nodes a.nodes), .row .any (.cuts a.cuts), .row .any (.msgs a.packets)]))] st))) (fun g => 10 - g.1)),
   (25, invX Nat [4, 15, 108, 109, 110, 111, 112, 113, 114, 115, 116, 117, 118, 119, 120, 121, 122, 123, 124, 125] [] (fun i => i ≤ w.nodes.length) (fun i st => withS [(15, .int .i64 (i : Int))] st) (fun i => w.nodes.length - i))], ?_⟩
 clear hfit
 refine V2 ?_; constructor <;> (first | (with_reducible exact TT.i) | (intros; (repeat (apply Wk.mk; intro Kv hN hX hR)); apply Wr.mk))
 all_goals (try simp only [etaWorld] at *)
 all_goals first
  | exact absurd (show (!true) = true by with_reducible assumption) (by decide)
  | rfl
  | (have hw : worldB w = true := nt aQ
     have hb := nodesB_iff.1 (baseB_iff.1 (worldB_base.1 hw).1).1
     have hl1 : 1 ≤ w.nodes.length := hb.1
     have hl2 : w.nodes.length ≤ 8 := hb.2.1
     first
      | (refine Ob.mk ?_
         simp only [kdBytes]
         omega)
      | (refine ⟨0, Nat.zero_le _, ?_⟩
         have e0 := (cpyN_zero w.nodes).symm
         refine V1 ?_; constructor <;> (first | (with_reducible exact TT.i) | (intros; (repeat (apply Wk.mk; intro Kv hN hX hR)); apply Wr.mk))
         all_goals first
          | rfl
          | exact congrArg Rw.nodes e0
          | exact congrArg Rw.nodes e0.symm)
      | (with_reducible intro i hi
         have hi : i ≤ w.nodes.length := hi
         have hcl := cpyN_len hi
         rcases i with _ | i
         all_goals
          refine V2 ?_; constructor <;> (first | (with_reducible exact TT.i) | (intros; (repeat (apply Wk.mk; intro Kv hN hX hR)); apply Wr.mk))
         all_goals (try simp only [etaWorld, etaNd, Int.toNat_natCast, Int.toNat_zero] at *)
         all_goals first
          | (refine Ob.mk ⟨by omega, ?_⟩
             omega)
          | (have h := of_decide_eq_true (show decide (((i + 1 : Nat) : Int) < (w.nodes.length : Nat)) = true by with_reducible assumption)
             refine Ob.mk ⟨by omega, ?_⟩
             omega)
          | (have h := of_decide_eq_true (show decide ((0 : Int) < (w.nodes.length : Nat)) = true by with_reducible assumption)
             refine ⟨1, by omega, by omega, ?_⟩
             have e1 := (cpyN_set (l := w.nodes) (i := 0) (by omega)).symm
             refine V1 ?_; constructor <;> (first | (with_reducible exact TT.i) | (intros; (repeat (apply Wk.mk; intro Kv hN hX hR)); apply Wr.mk))
             all_goals first
              | exact wrapI (by omega) (by omega)
              | exact congrArg (fun q => Ent.part 0 (Rw.nodes q)) e1
              | rfl)
          | (have h := of_decide_eq_true (show decide (((i + 1 : Nat) : Int) < (w.nodes.length : Nat)) = true by with_reducible assumption)
             refine ⟨i + 2, by omega, by omega, ?_⟩
             have e1 := (cpyN_set (l := w.nodes) (i := i + 1) (by omega)).symm
             refine V1 ?_; constructor <;> (first | (with_reducible exact TT.i) | (intros; (repeat (apply Wk.mk; intro Kv hN hX hR)); apply Wr.mk))
             all_goals first
              | exact wrapI (by omega) (by omega)
              | exact congrArg (fun q => Ent.part 0 (Rw.nodes q)) e1
              | rfl)
          | (exfalso
             have h := of_decide_eq_false (show decide ((0 : Int) < (w.nodes.length : Nat)) = false by with_reducible assumption)
             omega)
          | (have h := of_decide_eq_false (show decide (((i + 1 : Nat) : Int) < (w.nodes.length : Nat)) = false by with_reducible assumption)
             have e2 := cpyN_end hi (by omega)
             first
              | (refine ⟨(0, w, 0), ⟨Nat.zero_le _, Nat.zero_le _, hw, rfl⟩, ?_⟩
                 refine V1 ?_; constructor <;> (first | (with_reducible exact TT.i) | (intros; (repeat (apply Wk.mk; intro Kv hN hX hR)); apply Wr.mk))
                 all_goals first
                  | rfl
                  | exact congrArg (fun q => Ent.part 0 (Rw.nodes q)) e2.symm)
              | (rintro ⟨j, a, lo⟩ hg
                 obtain ⟨j1, j2, ja, jm⟩ : j ≤ rs.length ∧ j ≤ 10 ∧ worldB a = true ∧ a.nodes.map (fun x => x.view.id) = w.nodes.map fun x => x.view.id := hg
                 have hla := ids_len jm
                 obtain ⟨k, hk, hkl⟩ : ∃ k : Nat, IntKind.i64.wrap ((IntKind.u64.wrap (rs.getD j 0)).tmod (IntKind.u64.wrap (w.nodes.length : Int))) = (k : Int) ∧ k < w.nodes.length := ⟨_, pk_eq _ (by omega) (by omega), pk_lt _ (by omega)⟩
                 have hu : IntKind.u64.wrap (w.nodes.length : Int) ≠ 0 := by rw [wu64]; omega
                 obtain ⟨t1, t2, t3⟩ := tickTo_nodes ja (k := k) (by omega)
                 have d2 := (tickTo_do ja (k := k) (by omega)).2
                 have d3 := ids_len (t3.trans jm)
                 refine V2 ?_; constructor <;> (first | (with_reducible exact TT.i) | (intros; (repeat (apply Wk.mk; intro Kv hN hX hR)); apply Wr.mk))
                 all_goals (try simp only [etaWorld, etaNd, hk, tick_step ja jm hkl, Int.toNat_natCast, Int.toNat_zero] at *)
                 all_goals first
                  | (exact Ob.mk ⟨by omega, by
                      have h := of_decide_eq_true (show decide ((j : Int) < (rs.length : Nat)) = true by with_reducible assumption)
                      omega⟩)
                  | exact Ob.mk hu
                  | (refine Ob.mk ⟨by omega, ?_⟩
                     omega)
                  | (exfalso
                     rename_i h
                     revert h
                     decide)
                  | (exfalso
                     have h := of_decide_eq_false (nf (show (!decide (((tickTo a k).nodes.length : Int) = (w.nodes.length : Int))) = true by with_reducible assumption))
                     omega)
                  | (exfalso
                     have hup := (show (a.nodes.getD k default).up = true by with_reducible assumption)
                     have h := of_decide_eq_false (nf (show (!decide ((tickN (a.nodes.getD k default)).2.2 = 0)) = true by with_reducible assumption))
                     exact h (t2 hup))
                  | (have hup := (show (a.nodes.getD k default).up = true by with_reducible assumption)
                     have h := of_decide_eq_true (show decide ((j : Int) < (rs.length : Nat)) = true by with_reducible assumption)
                     have h10 := of_decide_eq_true (show decide ((j : Int) < 10) = true by with_reducible assumption)
                     rw [if_pos hup] at t1
                     refine ⟨(j + 1, tickTo a k, loStep lo k), ⟨by omega, by omega, d2, t3.trans jm⟩, by omega, ?_⟩
                     refine V1 ?_; constructor <;> (first | (with_reducible exact TT.i) | (intros; (repeat (apply Wk.mk; intro Kv hN hX hR)); apply Wr.mk))
                     all_goals first
                      | exact wrapI (by omega) (by omega)
                      | exact congrArg (fun q => Ent.part (loStep lo k) (Rw.nodes q)) t1
                      | exact congrArg (fun q => Ent.part (loStep lo k) (Rw.nodes q)) t1.symm
                      | rfl)
                  | (have hup := (show (a.nodes.getD k default).up = false by with_reducible assumption)
                     have h := of_decide_eq_true (show decide ((j : Int) < (rs.length : Nat)) = true by with_reducible assumption)
                     have h10 := of_decide_eq_true (show decide ((j : Int) < 10) = true by with_reducible assumption)
                     rw [if_neg (by rw [hup]; simp)] at t1
                     refine ⟨(j + 1, tickTo a k, lo), ⟨by omega, by omega, d2, t3.trans jm⟩, by omega, ?_⟩
                     refine V1 ?_; constructor <;> (first | (with_reducible exact TT.i) | (intros; (repeat (apply Wk.mk; intro Kv hN hX hR)); apply Wr.mk))
                     all_goals first
                      | exact wrapI (by omega) (by omega)
                      | exact congrArg (fun q => Ent.part lo (Rw.nodes q)) t1
                      | exact congrArg (fun q => Ent.part lo (Rw.nodes q)) t1.symm
                      | rfl)
                  | (refine ⟨0, Nat.zero_le _, ?_⟩
                     refine V1 ?_; constructor <;> (first | (with_reducible exact TT.i) | (intros; (repeat (apply Wk.mk; intro Kv hN hX hR)); apply Wr.mk))
                     all_goals rfl)
                  | (with_reducible intro q hq
                     have hq : q ≤ w.nodes.length := hq
                     refine V2 ?_; constructor <;> (first | (with_reducible exact TT.i) | (intros; (repeat (apply Wk.mk; intro Kv hN hX hR)); apply Wr.mk))
                     all_goals (try simp only [etaWorld, etaNd, Int.toNat_natCast, Int.toNat_zero] at *)
                     all_goals first
                      | exact absurd (show (!decide True) = true by with_reducible assumption) (by decide)
                      | (have h := of_decide_eq_true (show decide ((q : Int) < (w.nodes.length : Nat)) = true by with_reducible assumption)
                         first
                          | (refine Ob.mk ⟨by omega, ?_⟩
                             omega)
                          | (refine ⟨q + 1, by omega, by omega, ?_⟩
                             refine V1 ?_; constructor <;> (first | (with_reducible exact TT.i) | (intros; (repeat (apply Wk.mk; intro Kv hN hX hR)); apply Wr.mk))
                             all_goals first
                              | exact wrapI (by omega) (by omega)
                              | rfl)
                          | (exfalso
                             rename_i h
                             simp at h
                             done))
                      | rfl)))))
end Go.Proofs.YtjjpakdlkjaigaaGreat
