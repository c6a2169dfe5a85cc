/- A part of the proof of a law: F11a, F11b, F11c, P11, P10, F11d, F19a, VLf, DelFInts, F10, ClItems, ClTolds, F19b, F19c. -/
import Derived.Test.YtjjpakdlkjaigaaGreatMB7
import Derived.Lib.AppendZeros
import Derived.Shelf.SlicesE.DeleteFunc
import Derived.Shelf.RegionOpenPlain
import Derived.Lib.Walk
import Derived.Lib.SliceRun
import Derived.Laws.AppendOwn
import Derived.Conc.AppendEvents2
set_option linter.all false
set_option linter.unusedVariables false
set_option linter.unusedSimpArgs false
set_option linter.unusedSectionVars false
/- Contracts: Grow of nil, Concat of rows of ints; Ids; Copy of a view. -/
namespace Go.Proofs.YtjjpakdlkjaigaaGreat
open Go.RowKit
set_option maxRecDepth 20000
set_option maxHeartbeats 4000000 in
set_option maxRecDepth 1000000 in
theorem w_GrowInts : GrowW Tryz.prog 212 3 1 8 := by
 refine ⟨fnOk_enters (fn := Tryz.f212) (D := []) (by kernel_rfl) (by kernel_rfl), fun n w hb => ?_⟩
 obtain ⟨hk10, het, ti, hti, hsz, hby, _⟩ := tau_ok.rk 3 0 (by kernel_rfl)
 obtain ⟨x0, z, g1, g2, g3, g4, g5, g6⟩ := (tau_ok.ti _ ti hti).info
 have g2 : x0.size = 1 := g2.trans hsz
 have g3 : x0.bytes = 8 := g3.trans hby
 have g5 : z.cells.size = 1 := g5.trans hsz
 clear hk10 het g6
 have t22 : Tryz.prog.underlying 27 = some (.slice 3) := Tryz.underlying27
 have tI : Tryz.prog.underlying 3 = some (.int .i64) := Tryz.underlying3
 by_cases h0 : n = 0
 · subst h0
   clear g1 g2 g3 g4 g5 hti hsz hby
   go_enter Tryz.func212, Tryz.ntmps212
   go_wp2
   go_ret
   exact ⟨_, rfl, World.ownsRow_nil _ _ _ _, Below.refl _ _⟩
 · have hn0 : 0 < n := by omega
   have hrz : ∀ ty, (Builtin.append_ #[27, 3] ty #[.slice none 0 0, .int .i64 (n : Int)]).run Tryz.prog w = .ok (.slice (some ⟨w.heap.size, 0, none⟩) n (grownCap w n 0 3)) (w.drew.alloc (.cells (Builtin.zeroCells z.cells n ++ Builtin.zeroCells z.cells (grownCap w n 0 3 - n)) 3)) := fun ty =>
    Lib.run_append_nil_zeros w 27 3 ty 3 x0 z .i64 .i64 t22 tI g1 g4 n hn0 (by rw [g2]; decide) (by omega) (by rw [g3]; omega)
   obtain ⟨G, hG⟩ : ∃ G, G = grownCap w n 0 3 := ⟨_, rfl⟩
   rw [← hG] at hrz
   have hGn : n ≤ G := by rw [hG]; exact grownCap_ge w _ _ _
   have hGm : G ≤ maxLen := by rw [hG]; exact grownCap_le_maxLen w n 0 3 (by unfold maxLen; omega)
   obtain ⟨ROW, hROW⟩ : ∃ ROW : Array Value, ROW = Builtin.zeroCells z.cells n ++ Builtin.zeroCells z.cells (G - n) := ⟨_, rfl⟩
   rw [← hROW] at hrz
   have hRs : ROW.size = G * 1 := by
    rw [hROW]
    simp [Builtin.zeroCells, g5]
    omega
   have hnz : ¬ ((n : Int) < 0) := by omega
   have hw0 : IntKind.i64.wrap ((n : Int) - 0) = n := wrapI (by omega) (by omega)
   have hpos : (0 : Int) < (n : Int) := by omega
   have hGi : (0 : Int) ≤ (G : Int) := by omega
   clear g1 g2 g3 g4 g5 hti hsz hby hG hROW
   go_enter Tryz.func212, Tryz.ntmps212
   go_wp2_with (at_builtin; refine Lib.wpList_append_run _ rfl _ _ _ _ rfl _ _ rfl rfl _ _ (hrz _) ?_)
   go_wp2
   go_ret
   refine ⟨.slice (some ⟨w.heap.size, 0, none⟩) 0 G, rfl, ⟨rfl, .inr ⟨w.heap.size, G, ROW, rfl, Nat.le_refl _, ?_, Nat.zero_le _, hGm, hRs, by simp⟩⟩, ?_⟩
   · exact Array.getElem?_push_size
   · exact ((Below.refl _ w).drew).alloc (Nat.le_refl _) _
theorem t_GrowInts : TrKnown Tryz.prog tau 212 (growT 0 24) := grow_tr 24 (by decide) w_GrowInts
theorem flat_succ {l : List (List Int)} {i : Nat} (h : i < l.length) : (l.take (i + 1)).flatten = (l.take i).flatten ++ l.getD i [] := by
 rw [List.take_succ_eq_append_getElem h, List.flatten_append]
 simp [List.getD_eq_getElem?_getD, h]
theorem flat_le (l : List (List Int)) (i : Nat) : (l.take i).flatten.length ≤ l.flatten.length := by
 conv => rhs; rw [← List.take_append_drop i l, List.flatten_append, List.length_append]
 omega
theorem k_Concat : Known Tryz.prog tau 188 (S1 dIntss fun l => .ob (l.flatten.length * 8 ≤ 140737488355328) (.own 0) [.ints l.flatten]) := by
 refine knownX1 hmix tau_ok (fn := Tryz.f188) (by kernel_rfl) [] (by kernel_rfl) _ _ fun l hfit hs => ⟨rfl, _, ctx_tr t_GrowInts ctx_nil,
  [(3, invN [3, 5, 11, 12, 13, 14, 15, 16, 17, 18, 19, 20, 21, 22] (fun i => i ≤ l.length) (fun i => withS [(11, .int .i64 i), (3, .int .i64 (l.take i).flatten.length)]) (fun i => l.length - i)),
   (11, invX Nat (24 :: [6, 8, 27, 28, 29, 30, 31, 32, 33, 34]) [] (fun i => i ≤ l.length) (fun i => fun st => withS [(27, .int .i64 i), (6, .own 24)] (withR [(24, .own (.ints (l.take i).flatten))] st)) (fun i => l.length - i))], ?_⟩
 have hlen : l.length * 24 ≤ 140737488355328 := hfit.1.1
 clear hfit
 refine V2 ?_; constructor <;> (first | (with_reducible exact TT.i) | (intros; (repeat (apply Wk.mk; intro Kv hN hX hR)); apply Wr.mk))
 all_goals first
  | (refine ⟨0, Nat.zero_le _, ?_⟩
     refine V1 ?_; constructor <;> (first | (with_reducible exact TT.i) | (intros; (repeat (apply Wk.mk; intro Kv hN hX hR)); apply Wr.mk))
     all_goals rfl)
  | (with_reducible intro i hi
     have hi : i ≤ l.length := hi
     have f1 := flat_le l i
     have f2 := flat_le l (i + 1)
     refine V2 ?_; constructor <;> (first | (with_reducible exact TT.i) | (intros; (repeat (apply Wk.mk; intro Kv hN hX hR)); apply Wr.mk))
     all_goals (try simp only [Int.toNat_natCast] at *)
     all_goals first
      | exact Ob.mk ⟨by omega, of_decide_eq_true aQ⟩
      | (have h := of_decide_eq_true (show decide ((i : Int) < (l.length : Nat)) = true by with_reducible assumption)
         have e1 := congrArg List.length (flat_succ (l := l) (i := i) (by omega))
         rw [List.length_append] at e1
         have w1 : IntKind.i64.wrap (((l.take i).flatten.length : Int) + ((l.getD i []).length : Int)) = ((l.take (i + 1)).flatten.length : Int) := by
          rw [wrapI (by omega) (by omega), e1]
          omega
         first
          | (exfalso
             have h3 := of_decide_eq_true (show decide (IntKind.i64.wrap (((l.take i).flatten.length : Int) + ((l.getD i []).length : Int)) < 0) = true by with_reducible assumption)
             rw [w1] at h3
             omega)
          | (refine ⟨i + 1, by omega, by omega, ?_⟩
             refine V1 ?_; constructor <;> (first | (with_reducible exact TT.i) | (intros; (repeat (apply Wk.mk; intro Kv hN hX hR)); apply Wr.mk))
             all_goals first
              | exact wrapI (by omega) (by omega)
              | exact w1
              | rfl))
      | (have h := of_decide_eq_false (show decide ((i : Int) < (l.length : Nat)) = false by with_reducible assumption)
         have e0 : (l.take i).flatten = l.flatten := by rw [List.take_of_length_le (by omega)]
         first
          | (refine Ob.mk ⟨by omega, ?_⟩
             simp only [kdBytes]
             omega)
          | (refine ⟨0, Nat.zero_le _, ?_⟩
             refine V1 ?_; constructor <;> (first | (with_reducible exact TT.i) | (intros; (repeat (apply Wk.mk; intro Kv hN hX hR)); apply Wr.mk))
             all_goals rfl)
          | (with_reducible intro j hj
             have hj : j ≤ l.length := hj
             have f3 := flat_le l j
             have f4 := flat_le l (j + 1)
             refine V1 ?_; constructor <;> (first | (with_reducible exact TT.i) | (intros; (repeat (apply Wk.mk; intro Kv hN hX hR)); apply Wr.mk))
             all_goals (try simp only [Int.toNat_natCast] at *)
             all_goals first
              | exact Ob.mk ⟨by omega, of_decide_eq_true aQ⟩
              | (have h5 := of_decide_eq_true (show decide ((j : Int) < (l.length : Nat)) = true by with_reducible assumption)
                 have e2 := flat_succ (l := l) (i := j) (by omega)
                 have e3 := congrArg List.length e2
                 rw [List.length_append] at e3
                 first
                  | (refine Ob.mk ?_
                     simp only [Rw.len, Rw.bts, Rw.kd, kdBytes] at *
                     omega)
                  | (refine ⟨j + 1, by omega, by omega, ?_⟩
                     refine V1 ?_; constructor <;> (first | (with_reducible exact TT.i) | (intros; (repeat (apply Wk.mk; intro Kv hN hX hR)); apply Wr.mk))
                     all_goals first
                      | exact wrapI (by omega) (by omega)
                      | exact congrArg Rw.ints e2.symm
                      | rfl))
              | (have h5 := of_decide_eq_false (show decide ((j : Int) < (l.length : Nat)) = false by with_reducible assumption)
                 rw [List.take_of_length_le (by omega)]))))
theorem ids_arg {v : GView} (h : fitsV (dPView.e v)) : v.peers.length * 16 ≤ 140737488355328 := h.2.1
theorem k_Ids : Known Tryz.prog tau 137 (S1 dPView fun v => .ok (.own 0) [.ints (namesP v.peers)]) := by
 refine known1 hmix tau_ok ctx_nil (fn := Tryz.f137) (by kernel_rfl) [] (by kernel_rfl) _ _ fun v hfit => ⟨rfl,
  [(3, invA Nat [(3, 19, 0)] [3, 5, 11, 12, 13, 14, 15, 16, 17, 18, 19, 20] [19] (fun i => i ≤ v.peers.length) (fun i => fun st => withS [(11, .int .i64 i), (3, .own 19)] (withR [(19, .own (.ints (namesP (v.peers.take i))))] st)) (fun i => v.peers.length - i))], ?_⟩
 have hlen := ids_arg hfit.1
 clear hfit
 refine V2 ?_; constructor <;> (first | (with_reducible exact TT.i) | (intros; (repeat (apply Wk.mk; intro Kv hN hX hR)); apply Wr.mk))
 all_goals first
  | (refine ⟨0, Nat.zero_le _, ?_⟩
     refine V1 ?_; constructor <;> (first | (with_reducible exact TT.i) | (intros; (repeat (apply Wk.mk; intro Kv hN hX hR)); apply Wr.mk))
     all_goals rfl)
  | (with_reducible intro i hi
     have hi : i ≤ v.peers.length := hi
     refine V1 ?_; constructor <;> (first | (with_reducible exact TT.i) | (intros; (repeat (apply Wk.mk; intro Kv hN hX hR)); apply Wr.mk))
     all_goals (try simp only [Int.toNat_natCast] at *)
     all_goals first
      | exact Ob.mk ⟨by omega, of_decide_eq_true aQ⟩
      | (refine Ob.mk ?_
         simp only [Rw.len, Rw.bts, Rw.kd, kdBytes, List.length_cons, List.length_nil, List.length_append, namesP_len, List.length_take]
         omega)
      | (have h := of_decide_eq_true (show decide ((i : Int) < (v.peers.length : Nat)) = true by with_reducible assumption)
         refine ⟨i + 1, by omega, by omega, ?_⟩
         have e1 := namesP_succ (l := v.peers) (i := i) (by omega)
         refine V1 ?_; constructor <;> (first | (with_reducible exact TT.i) | (intros; (repeat (apply Wk.mk; intro Kv hN hX hR)); apply Wr.mk))
         all_goals first
          | exact wrapI (by omega) (by omega)
          | exact congrArg Rw.ints e1.symm
          | rfl)
      | (have h := of_decide_eq_false (show decide ((i : Int) < (v.peers.length : Nat)) = false by with_reducible assumption)
         rw [List.take_of_length_le (by omega)]))
end Go.Proofs.YtjjpakdlkjaigaaGreat

/- Contracts: peers that age; a view's copy; time that goes by. -/
namespace Go.Proofs.YtjjpakdlkjaigaaGreat
open Go.RowKit
set_option maxRecDepth 20000
def leftP : List GPeer → List GPeer
 | [] => []
 | p :: l => if p.missed + 1 = 3 then leftP l else ⟨p.id, p.missed + 1⟩ :: leftP l
def lostP : List GPeer → List Int
 | [] => []
 | p :: l => if p.missed + 1 = 3 then p.id :: lostP l else lostP l
theorem leftP_app (a b : List GPeer) : leftP (a ++ b) = leftP a ++ leftP b := by
 induction a with
 | nil => rfl
 | cons p a ih => simp only [List.cons_append, leftP, ih]; split <;> rfl
theorem lostP_app (a b : List GPeer) : lostP (a ++ b) = lostP a ++ lostP b := by
 induction a with
 | nil => rfl
 | cons p a ih => simp only [List.cons_append, lostP, ih]; split <;> rfl
theorem leftP_succ {l : List GPeer} {i : Nat} (h : i < l.length) : leftP (l.take (i + 1)) = leftP (l.take i) ++ (if (l.getD i default).missed + 1 = 3 then [] else [⟨(l.getD i default).id, (l.getD i default).missed + 1⟩]) := by
 rw [List.take_succ_eq_append_getElem h, leftP_app, ← etaP h]
 simp only [leftP]
theorem lostP_succ {l : List GPeer} {i : Nat} (h : i < l.length) : lostP (l.take (i + 1)) = lostP (l.take i) ++ (if (l.getD i default).missed + 1 = 3 then [(l.getD i default).id] else []) := by
 rw [List.take_succ_eq_append_getElem h, lostP_app, ← etaP h]
 simp only [lostP]
theorem leftP_len (l : List GPeer) : (leftP l).length ≤ l.length := by
 induction l with
 | nil => exact Nat.le_refl _
 | cons p l ih => simp only [leftP]; split <;> simp <;> omega
theorem lostP_len (l : List GPeer) : (lostP l).length ≤ l.length := by
 induction l with
 | nil => exact Nat.le_refl _
 | cons p l ih => simp only [lostP]; split <;> simp <;> omega
theorem leftlost_len (l : List GPeer) : (leftP l).length + (lostP l).length = l.length := by
 induction l with
 | nil => rfl
 | cons p l ih => simp only [leftP, lostP]; split <;> simp <;> omega
noncomputable def ageP (b : Int) (l : List GPeer) : List GPeer × List Int × Int := Classical.choose (seal_ex (if peersB b l = true then (leftP l, lostP l, (0 : Int)) else ([], [], 700)))
theorem ageP_def (b : Int) (l : List GPeer) : ageP b l = if peersB b l = true then (leftP l, lostP l, 0) else ([], [], 700) := Classical.choose_spec (seal_ex _)
theorem ageP_yes {b : Int} {l : List GPeer} (h : peersB b l = true) : ageP b l = (leftP l, lostP l, 0) := by rw [ageP_def, if_pos h]
theorem ageP_no {b : Int} {l : List GPeer} (h : peersB b l = false) : ageP b l = ([], [], 700) := by rw [ageP_def, if_neg (by rw [h]; simp)]
noncomputable def oAge (b : Int) (l : List GPeer) : Out := .ok (.tup [.own 0, .own 1, .int .i64 (ageP b l).2.2]) [.peers (ageP b l).1, .ints (ageP b l).2.1]
theorem missed_in {b : Int} {l : List GPeer} {i : Nat} (h : peersB b l = true) (hi : i < l.length) : 0 ≤ (l.getD i default).missed ∧ (l.getD i default).missed < 3 := by
 have := (peersB_iff.1 h).2.2.2 _ (getD_mem (d := default) hi)
 simp only [peerB, Bool.and_eq_true, decide_eq_true_eq] at this
 omega
set_option maxHeartbeats 1000000 in
theorem k_peersAge : Known Tryz.prog tau 187 (S2 dInt dPeers oAge) := by
 refine known2 hmix tau_ok (ctx_cons k_peersMay ctx_nil) (fn := Tryz.f187) (by kernel_rfl) [] (by kernel_rfl) _ _ _ fun b l hfit => ⟨rfl,
  [(6, invA Nat [(7, 36, 3), (8, 32, 0)] [7, 8, 10, 17, 18, 19, 20, 21, 22, 23, 24, 25, 26, 27, 28, 29, 30, 31, 32, 33, 34, 35, 36, 37] [32, 36] (fun i => i ≤ l.length) (fun i => fun st => withS [(17, .int .i64 i), (7, .own 36), (8, .own 32)] (withR [(36, .own (.peers (leftP (l.take i)))), (32, .own (.ints (lostP (l.take i))))] st)) (fun i => l.length - i))], ?_⟩
 have hlen : l.length * 16 ≤ 140737488355328 := hfit.2.1
 clear hfit
 refine V2 ?_; constructor <;> (first | (with_reducible exact TT.i) | (intros; (repeat (apply Wk.mk; intro Kv hN hX hR)); apply Wr.mk))
 all_goals first
  | (rw [ageP_no (nf aQ)] <;> rfl)
  | (refine ⟨0, Nat.zero_le _, ?_⟩
     refine V1 ?_; constructor <;> (first | (with_reducible exact TT.i) | (intros; (repeat (apply Wk.mk; intro Kv hN hX hR)); apply Wr.mk))
     all_goals rfl)
  | (with_reducible intro i hi
     have hi : i ≤ l.length := hi
     have hB : peersB b l = true := nt aQ
     refine V1 ?_; constructor <;> (first | (with_reducible exact TT.i) | (intros; (repeat (apply Wk.mk; intro Kv hN hX hR)); apply Wr.mk))
     all_goals (try simp only [Int.toNat_natCast] at *)
     all_goals first
      | exact Ob.mk ⟨by omega, of_decide_eq_true aQ⟩
      | (refine Ob.mk ?_
         have g1 := leftP_len (l.take i)
         have g2 := lostP_len (l.take i)
         simp only [Rw.len, Rw.bts, Rw.kd, kdBytes, List.length_cons, List.length_nil, List.length_append, List.length_take] at *
         omega)
      | (have h := of_decide_eq_true (show decide ((i : Int) < (l.length : Nat)) = true by with_reducible assumption)
         have hm := missed_in hB (i := i) (by omega)
         have w1 : IntKind.i64.wrap ((l.getD i default).missed + 1) = (l.getD i default).missed + 1 := wrapI (by omega) (by omega)
         have e1 := leftP_succ (l := l) (i := i) (by omega)
         have e2 := lostP_succ (l := l) (i := i) (by omega)
         first
          | (have h3 := of_decide_eq_true (show decide (IntKind.i64.wrap ((l.getD i default).missed + 1) = 3) = true by with_reducible assumption)
             rw [w1] at h3
             rw [if_pos h3] at e1 e2
             rw [List.append_nil] at e1
             refine ⟨i + 1, by omega, by omega, ?_⟩
             refine V1 ?_; constructor <;> (first | (with_reducible exact TT.i) | (intros; (repeat (apply Wk.mk; intro Kv hN hX hR)); apply Wr.mk))
             all_goals first
              | exact wrapI (by omega) (by omega)
              | exact congrArg Rw.peers e1.symm
              | exact congrArg Rw.ints e2.symm
              | rfl)
          | (have h3 := of_decide_eq_false (show decide (IntKind.i64.wrap ((l.getD i default).missed + 1) = 3) = false by with_reducible assumption)
             rw [w1] at h3
             rw [if_neg h3] at e1 e2
             rw [List.append_nil] at e2
             rw [← w1] at e1
             refine ⟨i + 1, by omega, by omega, ?_⟩
             refine V1 ?_; constructor <;> (first | (with_reducible exact TT.i) | (intros; (repeat (apply Wk.mk; intro Kv hN hX hR)); apply Wr.mk))
             all_goals first
              | exact wrapI (by omega) (by omega)
              | exact congrArg Rw.peers e1.symm
              | exact congrArg Rw.ints e2.symm
              | rfl))
      | (have h := of_decide_eq_false (show decide ((i : Int) < (l.length : Nat)) = false by with_reducible assumption)
         first
          | (rw [ageP_yes hB]; done)
          | (rw [ageP_yes hB, List.take_of_length_le (by omega)]; done)))
theorem k_viewCopy : Known Tryz.prog tau 143 (S1 dView fun v => .ok (.agg [.int .i64 v.id, .own 0, .own 1]) [.peers v.peers, .ints v.passive]) := by
 refine known1 hmix tau_ok (ctx_cons k_ClonePeers (ctx_cons k_CloneInts ctx_nil)) (fn := Tryz.f143) (by kernel_rfl) [(1, [(0, 0), (1, 1), (2, 2), (3, 0), (4, 8), (5, 20), (6, 31), (7, 127), (8, 255), (9, 511)])] (by kernel_rfl) _ _ fun v hfit => ⟨rfl, [], ?_⟩
 clear hfit
 refine V3 ?_; constructor <;> (first | (with_reducible exact TT.i) | (intros; (repeat (apply Wk.mk; intro Kv hN hX hR)); apply Wr.mk))
 all_goals first
  | rfl
end Go.Proofs.YtjjpakdlkjaigaaGreat

/- Contracts: time that goes by: the program's. -/
namespace Go.Proofs.YtjjpakdlkjaigaaGreat
open Go.RowKit
set_option maxRecDepth 20000
noncomputable def foldW : List Int → List Int → List Int
 | acc, [] => acc
 | acc, x :: l => foldW (withP acc x).1 l
theorem foldW_next {acc l : List Int} {i : Nat} (h : i < l.length) : foldW acc (l.drop i) = foldW (withP acc (l.getD i 0)).1 (l.drop (i + 1)) := by
 rw [drop_one_more (d := 0) h, foldW]
theorem foldW_end {acc l : List Int} {i : Nat} (h : ¬ i < l.length) : foldW acc (l.drop i) = acc := by
 rw [List.drop_eq_nil_of_le (by omega)]
 rfl
theorem withP_len (l : List Int) (x : Int) : (withP l x).1.length ≤ l.length + 1 := by
 rw [withP_def]
 split
 · split
   · simp
   · split
     · simp
     · simp [insP_len]
 · simp
def viewZ : GView := ⟨0, [], []⟩
noncomputable def tickV (v : GView) : GView × List Int × Int := Classical.choose (seal_ex (if viewB v = true then ((⟨v.id, leftP v.peers, foldW v.passive (lostP v.peers)⟩ : GView), namesP (leftP v.peers) ++ foldW v.passive (lostP v.peers), (0 : Int)) else (viewZ, [], 1100)))
theorem tickV_def (v : GView) : tickV v = if viewB v = true then ((⟨v.id, leftP v.peers, foldW v.passive (lostP v.peers)⟩ : GView), namesP (leftP v.peers) ++ foldW v.passive (lostP v.peers), (0 : Int)) else (viewZ, [], 1100) := Classical.choose_spec (seal_ex _)
theorem tickV_yes {v : GView} (h : viewB v = true) : tickV v = (⟨v.id, leftP v.peers, foldW v.passive (lostP v.peers)⟩, namesP (leftP v.peers) ++ foldW v.passive (lostP v.peers), 0) := by rw [tickV_def, if_pos h]
theorem tickV_no {v : GView} (h : viewB v = false) : tickV v = (viewZ, [], 1100) := by rw [tickV_def, if_neg (by rw [h]; simp)]
def vNew (v : GView) : List SV := [.int .i64 v.id, .row .new (.peers v.peers), .row .new (.ints v.passive)]
noncomputable def oTickV (v : GView) : Out := .ok (.tup [.agg [.int .i64 (tickV v).1.id, .own 0, .row .new (.ints (tickV v).1.passive)], .own 1, .int .i64 (tickV v).2.2]) [.peers (tickV v).1.peers, .ints (tickV v).2.1]
set_option maxHeartbeats 2000000 in
theorem k_ageTick : Known Tryz.prog tau 147 (S1 dView oTickV) := by
 refine known1 hmix tau_ok (ctx_cons k_passWith (ctx_cons k_viewMay (ctx_cons k_viewCopy (ctx_cons k_peersAge (ctx_cons k_Concat (ctx_cons k_Ids ctx_nil)))))) (fn := Tryz.f147) (by kernel_rfl) [(11, [(0, 0), (1, 0), (2, 0), (3, 4), (4, 10), (5, 18), (6, 33), (7, 127), (8, 255)])] (by kernel_rfl) _ _ fun v hfit => ⟨rfl,
  [(7, invF (Nat × List Int) [22] [10, 30, 31, 32, 33, 34, 35, 36, 37, 38, 39, 40, 41, 42] [5] (fun g => g.1 ≤ (lostP v.peers).length ∧ g.2.length ≤ v.passive.length + g.1 ∧ foldW v.passive (lostP v.peers) = foldW g.2 ((lostP v.peers).drop g.1)) (fun g => match g with
    | (i, acc) => fun st => withS [(30, .int .i64 i)] (withB [(5, (48, [.int .i64 v.id, .own 22, .row .new (.ints acc)]))] st)) (fun g => (lostP v.peers).length - g.1))], ?_⟩
 have hp : v.peers.length * 16 ≤ 140737488355328 := hfit.1.2.1
 clear hfit
 refine V4 ?_; constructor <;> (first | (with_reducible exact TT.i) | (intros; (repeat (apply Wk.mk; intro Kv hN hX hR)); apply Wr.mk))
 all_goals first
  | (rw [tickV_no (nf aQ)] <;> rfl)
  | (have hB : viewB v = true := nt aQ
     have hP := (viewB_iff.1 hB).1
     have ha := ageP_yes hP
     have hl := leftlost_len v.peers
     refine ⟨(0, v.passive), ⟨Nat.zero_le _, by simp, rfl⟩, ?_⟩
     refine V1 ?_; constructor <;> (first | (with_reducible exact TT.i) | (intros; (repeat (apply Wk.mk; intro Kv hN hX hR)); apply Wr.mk))
     all_goals first
      | rfl
      | exact congrArg (fun q : List GPeer × List Int × Int => Rw.peers q.1) ha)
  | (rintro ⟨i, acc⟩ ⟨hi, hl, hf⟩
     dsimp only at hi hl hf
     have hB : viewB v = true := nt aQ
     have hP := (viewB_iff.1 hB).1
     have hP16 := (viewB_iff.1 hB).2.2.1
     have ha := ageP_yes hP
     have hl2 := leftlost_len v.peers
     have ht := tickV_yes hB
     refine V1 ?_; constructor <;> (first | (with_reducible exact TT.i) | (intros; (repeat (apply Wk.mk; intro Kv hN hX hR)); apply Wr.mk))
     all_goals (try dsimp only at *)
     all_goals (try simp only [ha, Int.toNat_natCast] at *)
     all_goals first
      | exact Ob.mk ⟨by omega, of_decide_eq_true aQ⟩
      | (have h := of_decide_eq_true (show decide ((i : Int) < ((lostP v.peers).length : Nat)) = true by with_reducible assumption)
         have hw := withP_len acc ((lostP v.peers).getD i 0)
         refine ⟨(i + 1, (withP acc ((lostP v.peers).getD i 0)).1), ⟨by show i + 1 ≤ (lostP v.peers).length; omega, by show (withP acc ((lostP v.peers).getD i 0)).1.length ≤ v.passive.length + (i + 1); omega, by rw [hf, foldW_next (by omega)]⟩, by show (lostP v.peers).length - (i + 1) < (lostP v.peers).length - i; omega, ?_⟩
         refine V1 ?_; constructor <;> (first | (with_reducible exact TT.i) | (intros; (repeat (apply Wk.mk; intro Kv hN hX hR)); apply Wr.mk))
         all_goals first
          | exact wrapI (by omega) (by omega)
          | rfl)
      | (have h := of_decide_eq_false (show decide ((i : Int) < ((lostP v.peers).length : Nat)) = false by with_reducible assumption)
         have e1 : foldW v.passive (lostP v.peers) = acc := by rw [hf, foldW_end (by omega)]
         first
          | (refine Ob.mk ?_
             simp only [List.flatten_cons, List.flatten_nil, List.length_append, List.length_nil, namesP_len]
             omega)
          | (rw [ht]; done)
          | (rw [ht, e1]; done)
          | (rw [ht, e1]
             simp
             done)))
end Go.Proofs.YtjjpakdlkjaigaaGreat

/- Time that goes by, without a program: a view that may be stays one. -/
namespace Go.Proofs.YtjjpakdlkjaigaaGreat
open Go.RowKit
theorem viewB_iff2 {v : GView} : viewB v = true ↔ peersB v.id v.peers = true ∧ passB v.passive = true ∧ v.peers.length + v.passive.length ≤ 16 ∧ ∀ x ∈ v.passive, x ≠ v.id ∧ x ∉ namesP v.peers := by
 rw [viewB_iff]
 constructor
 · rintro ⟨h1, h2, h3, h4⟩
   refine ⟨h1, h2, h3, fun x hx => ?_⟩
   have := List.any_eq_false.1 h4 x hx
   rw [odd_same h1 ((passB_iff.1 h2).2.2 x hx)] at this
   simp only [refOdd, Bool.or_eq_true, decide_eq_true_eq, not_or, hasI_iff] at this
   exact this
 · rintro ⟨h1, h2, h3, h4⟩
   refine ⟨h1, h2, h3, ?_⟩
   rw [List.any_eq_false]
   intro x hx
   rw [odd_same h1 ((passB_iff.1 h2).2.2 x hx)]
   simp only [refOdd, Bool.or_eq_true, decide_eq_true_eq, not_or, hasI_iff]
   exact h4 x hx
theorem mem_namesP {l : List GPeer} {x : Int} : x ∈ namesP l ↔ ∃ p ∈ l, p.id = x := by simp [namesP]
theorem peers_iff {b : Int} {l : List GPeer} : peersB b l = true ↔ placeB b = true ∧ l.length ≤ 16 ∧ (l.Pairwise fun p q => farI b p.id < farI b q.id) ∧ ∀ p ∈ l, peerB b p = true := by
 rw [peersB_iff, risingP_iff]
theorem names_nodup {b : Int} {l : List GPeer} (h : peersB b l = true) : (namesP l).Pairwise (· ≠ ·) := by
 have h2 := (peers_iff.1 h).2.2.1
 unfold namesP
 rw [List.pairwise_map]
 refine h2.imp fun {p q} hpq e => ?_
 rw [e] at hpq
 omega
theorem peerB_iff {b : Int} {p : GPeer} : peerB b p = true ↔ placeB p.id = true ∧ 0 ≤ p.missed ∧ p.missed < 3 ∧ 0 < farI b p.id := by
 simp [peerB]
theorem mem_leftP {l : List GPeer} {q : GPeer} : q ∈ leftP l ↔ ∃ p ∈ l, p.missed + 1 ≠ 3 ∧ q = ⟨p.id, p.missed + 1⟩ := by
 induction l with
 | nil => simp [leftP]
 | cons p l ih =>
   simp only [leftP]
   split
   · rename_i h
     rw [ih]
     constructor
     · rintro ⟨p', h1, h2⟩; exact ⟨p', List.mem_cons_of_mem _ h1, h2⟩
     · rintro ⟨p', h1, h2, h3⟩
       rcases List.mem_cons.1 h1 with rfl | h1
       · exact absurd h h2
       · exact ⟨p', h1, h2, h3⟩
   · rename_i h
     rw [List.mem_cons, ih]
     constructor
     · rintro (rfl | ⟨p', h1, h2⟩)
       · exact ⟨p, List.mem_cons_self, h, rfl⟩
       · exact ⟨p', List.mem_cons_of_mem _ h1, h2⟩
     · rintro ⟨p', h1, h2, h3⟩
       rcases List.mem_cons.1 h1 with rfl | h1
       · exact .inl h3
       · exact .inr ⟨p', h1, h2, h3⟩
theorem mem_lostP {l : List GPeer} {x : Int} : x ∈ lostP l ↔ ∃ p ∈ l, p.missed + 1 = 3 ∧ x = p.id := by
 induction l with
 | nil => simp [lostP]
 | cons p l ih =>
   simp only [lostP]
   split
   · rename_i h
     rw [List.mem_cons, ih]
     constructor
     · rintro (rfl | ⟨p', h1, h2⟩)
       · exact ⟨p, List.mem_cons_self, h, rfl⟩
       · exact ⟨p', List.mem_cons_of_mem _ h1, h2⟩
     · rintro ⟨p', h1, h2, h3⟩
       rcases List.mem_cons.1 h1 with rfl | h1
       · exact .inl h3
       · exact .inr ⟨p', h1, h2, h3⟩
   · rename_i h
     rw [ih]
     constructor
     · rintro ⟨p', h1, h2⟩; exact ⟨p', List.mem_cons_of_mem _ h1, h2⟩
     · rintro ⟨p', h1, h2, h3⟩
       rcases List.mem_cons.1 h1 with rfl | h1
       · exact absurd h2 h
       · exact ⟨p', h1, h2, h3⟩
theorem same_of_names {l : List GPeer} (h : (namesP l).Pairwise (· ≠ ·)) {p q : GPeer} (hp : p ∈ l) (hq : q ∈ l) (e : p.id = q.id) : p = q := by
 induction l with
 | nil => simp at hp
 | cons r l ih =>
   have h2 : (∀ x ∈ namesP l, r.id ≠ x) ∧ (namesP l).Pairwise (· ≠ ·) := List.pairwise_cons.1 h
   rcases List.mem_cons.1 hp with h3 | h3
   · rcases List.mem_cons.1 hq with h4 | h4
     · rw [h3, h4]
     · subst h3
       exact absurd e (h2.1 _ (mem_namesP.2 ⟨q, h4, rfl⟩))
   · rcases List.mem_cons.1 hq with h4 | h4
     · subst h4
       exact absurd e.symm (h2.1 _ (mem_namesP.2 ⟨p, h3, rfl⟩))
     · exact ih h2.2 h3 h4
theorem passB_insP' {l : List Int} {x : Int} (h : passB l = true) (hx : placeB x = true) (hn : hasI l x = false) (hl : l.length ≠ 16) : passB (insP l x) = true := by
 rw [passB_iff] at h ⊢
 refine ⟨by rw [insP_len]; omega, ?_, ?_⟩
 · rw [rising_iff]
   refine asc_insP (rising_iff.1 h.2.1) fun hm => ?_
   rw [hasI_iff.2 hm] at hn
   exact absurd hn (by simp)
 · intro y hy
   rcases mem_insP.1 hy with rfl | hy
   · exact hx
   · exact h.2.2 y hy
theorem lostP_nodup {l : List GPeer} (h : (namesP l).Pairwise (· ≠ ·)) : (lostP l).Pairwise (· ≠ ·) := by
 induction l with
 | nil => simp [lostP]
 | cons p l ih =>
   have h2 : (∀ x ∈ namesP l, p.id ≠ x) ∧ (namesP l).Pairwise (· ≠ ·) := List.pairwise_cons.1 h
   simp only [lostP]
   split
   · rw [List.pairwise_cons]
     refine ⟨fun x hx => ?_, ih h2.2⟩
     obtain ⟨q, hq, _, rfl⟩ := mem_lostP.1 hx
     exact h2.1 _ (mem_namesP.2 ⟨q, hq, rfl⟩)
   · exact ih h2.2
theorem leftP_rising {b : Int} {l : List GPeer} (h : l.Pairwise fun p q => farI b p.id < farI b q.id) : (leftP l).Pairwise fun p q => farI b p.id < farI b q.id := by
 induction l with
 | nil => simp [leftP]
 | cons p l ih =>
   rw [List.pairwise_cons] at h
   simp only [leftP]
   split
   · exact ih h.2
   · rw [List.pairwise_cons]
     refine ⟨fun q hq => ?_, ih h.2⟩
     obtain ⟨p', h1, _, rfl⟩ := mem_leftP.1 hq
     exact h.1 p' h1
theorem leftP_peers {b : Int} {l : List GPeer} (h : peersB b l = true) : peersB b (leftP l) = true := by
 rw [peers_iff] at h ⊢
 refine ⟨h.1, Nat.le_trans (leftP_len l) h.2.1, leftP_rising h.2.2.1, fun q hq => ?_⟩
 obtain ⟨p, h1, h2, rfl⟩ := mem_leftP.1 hq
 have := peerB_iff.1 (h.2.2.2 p h1)
 rw [peerB_iff]
 exact ⟨this.1, by show 0 ≤ p.missed + 1; omega, by show p.missed + 1 < 3; omega, this.2.2.2⟩
theorem foldW_ok : ∀ {l acc : List Int}, passB acc = true → (∀ x ∈ l, placeB x = true) → l.Pairwise (· ≠ ·) → (∀ x ∈ l, x ∉ acc) → acc.length + l.length ≤ 16 →
  passB (foldW acc l) = true ∧ (foldW acc l).length = acc.length + l.length ∧ ∀ y, y ∈ foldW acc l ↔ y ∈ acc ∨ y ∈ l
 | [], acc, h, _, _, _, _ => ⟨h, rfl, fun y => by simp [foldW]⟩
 | x :: l, acc, h, hp, hd, hn, hl => by
   rw [List.pairwise_cons] at hd
   simp only [List.length_cons] at hl
   have hx := hp x List.mem_cons_self
   have hh : hasI acc x = false := by
    cases e : hasI acc x with
    | false => rfl
    | true => exact absurd (hasI_iff.1 e) (hn x List.mem_cons_self)
   have hw := withP_yes h hx hh (by omega)
   obtain ⟨h1, h2, h3⟩ := foldW_ok (acc := insP acc x) (l := l) (passB_insP' h hx hh (by omega)) (fun y hy => hp y (List.mem_cons_of_mem _ hy)) hd.2 (fun y hy hm => by
    rcases mem_insP.1 hm with e | hm
    · exact hd.1 y hy e.symm
    · exact hn y (List.mem_cons_of_mem _ hy) hm) (by rw [insP_len]; omega)
   rw [insP_len] at h2
   simp only [foldW, hw]
   refine ⟨h1, by rw [h2]; simp; omega, fun y => ?_⟩
   rw [h3, mem_insP]
   simp only [List.mem_cons]
   constructor
   · rintro ((h | h) | h)
     · exact .inr (.inl h)
     · exact .inl h
     · exact .inr (.inr h)
   · rintro (h | h | h)
     · exact .inl (.inr h)
     · exact .inl (.inl h)
     · exact .inr h
theorem tick_ok {v : GView} (h : viewB v = true) : viewB (tickV v).1 = true ∧ (tickV v).1.id = v.id ∧ (tickV v).1.peers = leftP v.peers ∧ (tickV v).1.passive = foldW v.passive (lostP v.peers) ∧ (tickV v).2.1 = namesP (leftP v.peers) ++ (tickV v).1.passive ∧
  (tickV v).2.2 = 0 ∧ (tickV v).1.peers.length + (tickV v).1.passive.length = v.peers.length + v.passive.length ∧ ∀ y, y ∈ (tickV v).1.passive ↔ y ∈ v.passive ∨ y ∈ lostP v.peers := by
 have hv := viewB_iff2.1 h
 have ht := tickV_yes h
 have hp := peers_iff.1 hv.1
 obtain ⟨f1, f2, f3⟩ := foldW_ok (l := lostP v.peers) hv.2.1 (fun x hx => by
  obtain ⟨p, h1, _, rfl⟩ := mem_lostP.1 hx
  exact (peerB_iff.1 (hp.2.2.2 p h1)).1) (lostP_nodup (names_nodup hv.1)) (fun x hx hm => by
  obtain ⟨p, h1, _, rfl⟩ := mem_lostP.1 hx
  exact (hv.2.2.2 _ hm).2 (mem_namesP.2 ⟨p, h1, rfl⟩)) (by have := lostP_len v.peers; omega)
 have hl := leftlost_len v.peers
 rw [ht]
 refine ⟨viewB_iff2.2 ⟨leftP_peers hv.1, f1, ?_, ?_⟩, rfl, rfl, rfl, rfl, rfl, ?_, f3⟩
 · show (leftP v.peers).length + (foldW v.passive (lostP v.peers)).length ≤ 16
   rw [f2]
   omega
 · intro x hx
   show x ≠ v.id ∧ x ∉ namesP (leftP v.peers)
   rcases (f3 x).1 hx with h1 | h1
   · refine ⟨(hv.2.2.2 x h1).1, fun hm => ?_⟩
     obtain ⟨q, hq, rfl⟩ := mem_namesP.1 hm
     obtain ⟨p, h3, _, rfl⟩ := mem_leftP.1 hq
     exact (hv.2.2.2 _ h1).2 (mem_namesP.2 ⟨p, h3, rfl⟩)
   · obtain ⟨p, h2, h3, rfl⟩ := mem_lostP.1 h1
     have hpb := peerB_iff.1 (hp.2.2.2 p h2)
     refine ⟨fun e => ?_, fun hm => ?_⟩
     · have := (far_pos hp.1 hpb.1).1.1 hpb.2.2.2
       exact this e
     · obtain ⟨q, hq, hqe⟩ := mem_namesP.1 hm
       obtain ⟨p', h4, h5, rfl⟩ := mem_leftP.1 hq
       have : p' = p := by
        have hnd := names_nodup hv.1
        exact same_of_names hnd h4 h2 hqe
       subst this
       exact h5 h3
 · show (leftP v.peers).length + (foldW v.passive (lostP v.peers)).length = _
   rw [f2]
   omega
end Go.Proofs.YtjjpakdlkjaigaaGreat

/- Plain law: one that is heard: the view may be. -/
namespace Go.Proofs.YtjjpakdlkjaigaaGreat
open Go.RowKit
theorem cnt_splitK {α : Type} (κ : α → Int) {l : List α} {K : Int} (h : l.Pairwise fun a b => κ a < κ b) : (∀ y ∈ l.take (l.countP fun y => decide (κ y < K)), κ y < K) ∧ ∀ y ∈ l.drop (l.countP fun y => decide (κ y < K)), K ≤ κ y := by
 have h1 := cnt_split (l := l.map κ) (x := K) (List.pairwise_map.2 h)
 rw [List.countP_map] at h1
 have e : (fun y => decide (y < K)) ∘ κ = fun y => decide (κ y < K) := rfl
 rw [e, ← List.map_take, ← List.map_drop] at h1
 exact ⟨fun y hy => h1.1 _ (List.mem_map_of_mem hy), fun y hy => h1.2 _ (List.mem_map_of_mem hy)⟩
theorem ins_risingK {α : Type} (κ : α → Int) {l : List α} {x : α} (h : l.Pairwise fun a b => κ a < κ b) (hn : ∀ y ∈ l, κ y ≠ κ x) : (l.take (l.countP fun y => decide (κ y < κ x)) ++ [x] ++ l.drop (l.countP fun y => decide (κ y < κ x))).Pairwise fun a b => κ a < κ b := by
 have hc := cnt_splitK κ (K := κ x) h
 rw [List.append_assoc, List.pairwise_append]
 refine ⟨h.sublist (List.take_sublist ..), ?_, ?_⟩
 · rw [List.singleton_append, List.pairwise_cons]
   refine ⟨fun y hy => ?_, h.sublist (List.drop_sublist ..)⟩
   have h1 := hc.2 y hy
   have h2 := hn y (List.mem_of_mem_drop hy)
   omega
 · intro a ha b hb
   have h1 := hc.1 a ha
   rcases List.mem_append.1 hb with hb | hb
   · simp at hb; subst hb; exact h1
   · have := hc.2 b hb
     omega
theorem mem_insK {α : Type} {l : List α} {c : Nat} {x y : α} : y ∈ l.take c ++ [x] ++ l.drop c ↔ y = x ∨ y ∈ l := by
 have e : l = l.take c ++ l.drop c := (List.take_append_drop ..).symm
 simp only [List.mem_append, List.mem_singleton]
 conv => rhs; rhs; rw [e, List.mem_append]
 constructor
 · rintro ((h | h) | h)
   · exact .inr (.inl h)
   · exact .inl h
   · exact .inr (.inr h)
 · rintro (h | h | h)
   · exact .inl (.inr h)
   · exact .inl (.inl h)
   · exact .inr h
theorem len_insK {α : Type} {l : List α} {c : Nat} {x : α} : (l.take c ++ [x] ++ l.drop c).length = l.length + 1 := by
 simp only [List.length_append, List.length_take, List.length_drop, List.length_cons, List.length_nil]
 omega
theorem hasP_iff {b x : Int} {l : List GPeer} (h : peersB b l = true) (hx : placeB x = true) : hasP b l x = true ↔ x ∈ namesP l := by
 have := peersB_iff.1 h
 rw [has_names this.1 this.2.2.2 hx, hasI_iff]
theorem names_set {l : List GPeer} {c : Nat} {m : Int} (hc : c < l.length) : namesP (l.set c ⟨(l.getD c default).id, m⟩) = namesP l := by
 apply List.ext_getElem
 · simp [namesP]
 · intro j h1 h2
   simp only [namesP, List.getElem_map, List.getElem_set]
   split
   · rename_i h; subst h; simp [List.getD_eq_getElem?_getD, hc]
   · rfl
theorem heard_ok {b x : Int} {l : List GPeer} (hP : peersB b l = true) (hx : placeB x = true) (hne : x ≠ b) (hr : hasP b l x = true ∨ l.length ≠ 16) :
  peersB b (heardP b l x).1 = true ∧ (heardP b l x).2 = 0 ∧ (heardP b l x).1.length = l.length + (if hasP b l x = true then 0 else 1) ∧ ∀ y, y ∈ namesP (heardP b l x).1 ↔ y = x ∨ y ∈ namesP l := by
 have hp := peers_iff.1 hP
 have hp2 := peersB_iff.1 hP
 cases hh : hasP b l x with
 | true =>
   have hc := risingP_has hp2.2.2.1 hh
   rw [heardP_has hP hx hne hh]
   dsimp only
   refine ⟨?_, rfl, by simp, fun y => ?_⟩
   · refine peers_iff.2 ⟨hp.1, by simpa using hp.2.1, ?_, fun p hp' => ?_⟩
     · have e := names_set (m := 0) hc.1
       have h1 : (namesP l).Pairwise fun p q => farI b p < farI b q := List.pairwise_map.2 hp.2.2.1
       rw [← e] at h1
       exact (List.pairwise_map (R := fun p q => farI b p < farI b q) (f := fun p : GPeer => p.id)).1 h1
     · rcases List.mem_or_eq_of_mem_set hp' with h1 | h1
       · exact hp.2.2.2 p h1
       · subst h1
         have := peerB_iff.1 (hp.2.2.2 _ (getD_mem (d := default) hc.1))
         exact peerB_iff.2 ⟨this.1, Int.le_refl 0, (by show (0 : Int) < 3; decide), this.2.2.2⟩
   · rw [names_set hc.1]
     have := (hasP_iff hP hx).1 hh
     constructor
     · exact .inr
     · rintro (rfl | h)
       · exact this
       · exact h
 | false =>
   have h16 : l.length ≠ 16 := by
    rcases hr with h | h
    · rw [hh] at h; simp at h
    · exact h
   have hnot : x ∉ namesP l := fun h => by rw [(hasP_iff hP hx).2 h] at hh; simp at hh
   rw [heardP_yes hP hx hne hh h16]
   dsimp only
   have hpos : 0 < farI b x := by
    have h1 := hx
    have h2 := hp.1
    simp only [placeB, Bool.and_eq_true, decide_eq_true_eq] at h1 h2
    rw [farI_eq h2.1 h2.2 h1.1 h1.2]
    omega
   obtain ⟨L, hL⟩ : ∃ L, L = l.take (l.countP fun p => decide (farI b p.id < farI b x)) ++ [(⟨x, 0⟩ : GPeer)] ++ l.drop (l.countP fun p => decide (farI b p.id < farI b x)) := ⟨_, rfl⟩
   have hmem : ∀ p, p ∈ L ↔ p = ⟨x, 0⟩ ∨ p ∈ l := fun p => by rw [hL]; exact mem_insK
   have hlen : L.length = l.length + 1 := by rw [hL]; exact len_insK
   have hris : L.Pairwise fun p q => farI b p.id < farI b q.id := by
    have hne : ∀ y ∈ l, (fun p : GPeer => farI b p.id) y ≠ (fun p : GPeer => farI b p.id) ⟨x, 0⟩ := by
     intro y hy e
     apply hnot
     have h1 := peerB_iff.1 (hp.2.2.2 y hy)
     have e : farI b y.id = farI b x := e
     exact mem_namesP.2 ⟨y, hy, (far_inj hp.1 h1.1 hx).1 e⟩
    have h2 := ins_risingK (fun p : GPeer => farI b p.id) (x := (⟨x, 0⟩ : GPeer)) hp.2.2.1 hne
    dsimp only at h2
    rw [hL]
    exact h2
   rw [← hL]
   clear hL
   refine ⟨?_, rfl, by rw [hlen]; rfl, fun y => ?_⟩
   · refine peers_iff.2 ⟨hp.1, by omega, hris, fun p hp' => ?_⟩
     rcases (hmem p).1 hp' with h1 | h1
     · subst h1
       exact peerB_iff.2 ⟨hx, Int.le_refl 0, (by show (0 : Int) < 3; decide), hpos⟩
     · exact hp.2.2.2 p h1
   · rw [mem_namesP]
     constructor
     · rintro ⟨p, h1, rfl⟩
       rcases (hmem p).1 h1 with h1 | h1
       · subst h1; exact .inl rfl
       · exact .inr (mem_namesP.2 ⟨p, h1, rfl⟩)
     · rintro (rfl | h1)
       · exact ⟨⟨y, 0⟩, (hmem _).2 (.inl rfl), rfl⟩
       · obtain ⟨p, h2, rfl⟩ := mem_namesP.1 h1
         exact ⟨p, (hmem _).2 (.inr h2), rfl⟩
noncomputable def withoutP (l : List Int) (x : Int) : List Int × Int := Classical.choose (seal_ex (if passB l = true ∧ placeB x = true then (l.filter fun y => !decide (y = x), (0 : Int)) else ([], 800)))
theorem withoutP_def (l : List Int) (x : Int) : withoutP l x = if passB l = true ∧ placeB x = true then (l.filter fun y => !decide (y = x), (0 : Int)) else ([], 800) := Classical.choose_spec (seal_ex _)
theorem withoutP_no {l : List Int} {x : Int} (h : passB l = false ∨ placeB x = false) : withoutP l x = ([], 800) := by
 rw [withoutP_def, if_neg]
 rintro ⟨h1, h2⟩
 rcases h with h | h <;> simp_all
theorem withoutP_yes {l : List Int} {x : Int} (h1 : passB l = true) (h2 : placeB x = true) : withoutP l x = (l.filter fun y => !decide (y = x), 0) := by rw [withoutP_def, if_pos ⟨h1, h2⟩]
def knownB (v : GView) (x : Int) : Bool := hasP v.id v.peers x || hasI v.passive x
noncomputable def knownV (v : GView) (x : Int) : GView := Classical.choose (seal_ex (if knownB v x = false ∧ 16 ≤ v.peers.length + v.passive.length then v else ⟨v.id, (heardP v.id v.peers x).1, (withoutP v.passive x).1⟩))
theorem knownV_def (v : GView) (x : Int) : knownV v x = if knownB v x = false ∧ 16 ≤ v.peers.length + v.passive.length then v else ⟨v.id, (heardP v.id v.peers x).1, (withoutP v.passive x).1⟩ := Classical.choose_spec (seal_ex _)
theorem filt_len {l : List Int} {x : Int} (h : x ∈ l) : (l.filter fun y => !decide (y = x)).length < l.length := by
 induction l with
 | nil => simp at h
 | cons a l ih =>
   rw [List.filter_cons]
   by_cases e : a = x
   · subst e
     simp only [decide_true, Bool.not_true, Bool.false_eq_true, if_false, List.length_cons]
     exact Nat.lt_succ_of_le (List.length_filter_le ..)
   · rw [decide_eq_false e]
     have : x ∈ l := by
      rcases List.mem_cons.1 h with h | h
      · exact absurd h.symm e
      · exact h
     have := ih this
     simp only [Bool.not_false, if_true, List.length_cons]
     omega
def namesV (v : GView) : List Int := namesP v.peers ++ v.passive
theorem known_ok {v : GView} {x : Int} (h : viewB v = true) (hx : placeB x = true) (hne : x ≠ v.id) : viewB (knownV v x) = true ∧ (knownV v x).id = v.id ∧ ∀ y ∈ namesV (knownV v x), y = x ∨ y ∈ namesV v := by
 rw [knownV_def]
 split
 · exact ⟨h, rfl, fun y hy => .inr hy⟩
 · rename_i hf
   obtain ⟨hP, hQ, hl, hd⟩ := viewB_iff2.1 h
   have hq := passB_iff.1 hQ
   have hroom : hasP v.id v.peers x = true ∨ v.peers.length ≠ 16 := by
    cases h1 : hasP v.id v.peers x with
    | true => exact .inl rfl
    | false =>
      right
      intro h16
      have h2 : v.passive = [] := List.eq_nil_of_length_eq_zero (by omega)
      apply hf
      unfold knownB
      rw [h1, h2]
      exact ⟨rfl, by rw [h16]; exact Nat.le_add_right ..⟩
   obtain ⟨a1, a2, a3, a4⟩ := heard_ok hP hx hne hroom
   rw [withoutP_yes hQ hx]
   refine ⟨viewB_iff2.2 ⟨a1, ?_, ?_, fun y hy => ?_⟩, rfl, fun y hy => ?_⟩
   · refine passB_iff.2 ⟨Nat.le_trans (List.length_filter_le ..) hq.1, ?_, fun y hy => hq.2.2 y (List.mem_filter.1 hy).1⟩
     exact rising_iff.2 ((rising_iff.1 hq.2.1).sublist List.filter_sublist)
   · show (heardP v.id v.peers x).1.length + (v.passive.filter fun y => !decide (y = x)).length ≤ 16
     rw [a3]
     have hle := List.length_filter_le (fun y => !decide (y = x)) v.passive
     by_cases h1 : hasP v.id v.peers x = true
     · rw [if_pos h1]; omega
     · rw [if_neg h1]
       by_cases h2 : x ∈ v.passive
       · have := filt_len h2
         omega
       · have h3 : knownB v x = false := by
          unfold knownB
          have h4 : hasI v.passive x = false := by
           cases h5 : hasI v.passive x with
           | false => rfl
           | true => exact absurd (hasI_iff.1 h5) h2
          rw [h4]
          simpa using h1
         have : ¬ 16 ≤ v.peers.length + v.passive.length := fun h5 => hf ⟨h3, h5⟩
         omega
   · have hy := List.mem_filter.1 hy
     have h1 := hd y hy.1
     refine ⟨h1.1, fun h2 => ?_⟩
     rcases (a4 y).1 h2 with e | e
     · subst e; simp at hy
     · exact h1.2 e
   · rcases List.mem_append.1 hy with hy | hy
     · rcases (a4 y).1 hy with e | e
       · exact .inl e
       · exact .inr (List.mem_append_left _ e)
     · exact .inr (List.mem_append_right _ (List.mem_filter.1 hy).1)
noncomputable def stepK (v : GView) (x : Int) : GView := if x ≠ v.id ∧ knownB v x = false then knownV v x else v
noncomputable def foldK : GView → List Int → GView
 | v, [] => v
 | v, x :: l => foldK (stepK v x) l
theorem foldK_next {v : GView} {l : List Int} {i : Nat} (h : i < l.length) : foldK v (l.drop i) = foldK (stepK v (l.getD i 0)) (l.drop (i + 1)) := by
 rw [drop_one_more (d := 0) h, foldK]
theorem foldK_end {v : GView} {l : List Int} {i : Nat} (h : ¬ i < l.length) : foldK v (l.drop i) = v := by
 rw [List.drop_eq_nil_of_le (by omega)]
 rfl
theorem stepK_ok {v : GView} {x : Int} (h : viewB v = true) (hx : placeB x = true) : viewB (stepK v x) = true ∧ (stepK v x).id = v.id ∧ ∀ y ∈ namesV (stepK v x), y = x ∨ y ∈ namesV v := by
 unfold stepK
 split
 · rename_i h1
   exact known_ok h hx h1.1
 · exact ⟨h, rfl, fun y hy => .inr hy⟩
theorem foldK_ok : ∀ {l : List Int} {v : GView}, viewB v = true → (∀ x ∈ l, placeB x = true) → viewB (foldK v l) = true ∧ (foldK v l).id = v.id ∧ ∀ y ∈ namesV (foldK v l), y ∈ l ∨ y ∈ namesV v
 | [], v, h, _ => ⟨h, rfl, fun y hy => .inr hy⟩
 | x :: l, v, h, hl => by
   obtain ⟨a1, a2, a3⟩ := stepK_ok h (hl x (List.mem_cons_self ..))
   obtain ⟨b1, b2, b3⟩ := foldK_ok (l := l) a1 fun y hy => hl y (List.mem_cons_of_mem _ hy)
   refine ⟨b1, b2.trans a2, fun y hy => ?_⟩
   rcases b3 y hy with h1 | h1
   · exact .inl (List.mem_cons_of_mem _ h1)
   · rcases a3 y h1 with h2 | h2
     · exact .inl (by rw [h2]; exact List.mem_cons_self ..)
     · exact .inr h2
noncomputable def helloV (v : GView) (x : Int) (ids : List Int) : GView × Int := Classical.choose (seal_ex (if viewB v = true ∧ placeB x = true ∧ x ≠ v.id ∧ ids.length ≤ 16 ∧ ids.all placeB = true then (foldK (knownV v x) ids, (0 : Int)) else (viewZ, 1000)))
theorem helloV_def (v : GView) (x : Int) (ids : List Int) : helloV v x ids = if viewB v = true ∧ placeB x = true ∧ x ≠ v.id ∧ ids.length ≤ 16 ∧ ids.all placeB = true then (foldK (knownV v x) ids, (0 : Int)) else (viewZ, 1000) := Classical.choose_spec (seal_ex _)
theorem helloV_no {v : GView} {x : Int} {ids : List Int} (h : viewB v = false ∨ placeB x = false ∨ x = v.id ∨ 16 < ids.length ∨ ids.all placeB = false) : helloV v x ids = (viewZ, 1000) := by
 rw [helloV_def, if_neg]
 rintro ⟨h1, h2, h3, h4, h5⟩
 rcases h with h | h | h | h | h
 · rw [h] at h1; simp at h1
 · rw [h] at h2; simp at h2
 · exact h3 h
 · omega
 · rw [h] at h5; simp at h5
theorem helloV_yes {v : GView} {x : Int} {ids : List Int} (h1 : viewB v = true) (h2 : placeB x = true) (h3 : x ≠ v.id) (h4 : ids.length ≤ 16) (h5 : ids.all placeB = true) : helloV v x ids = (foldK (knownV v x) ids, 0) := by
 rw [helloV_def, if_pos ⟨h1, h2, h3, h4, h5⟩]
end Go.Proofs.YtjjpakdlkjaigaaGreat

/- Contracts: time that goes by: the document's. -/
namespace Go.Proofs.YtjjpakdlkjaigaaGreat
open Go.RowKit
set_option maxRecDepth 20000
set_option maxHeartbeats 2000000 in
theorem k_refAge : Known Tryz.prog tau 127 (S2 dInt dPeers oAge) := by
 refine known2 hmix tau_ok (ctx_cons k_refPeers ctx_nil) (fn := Tryz.f127) (by kernel_rfl) [(10, [(0, 0), (1, 0), (2, 0), (3, 6), (4, 8), (5, 16), (6, 0), (7, 0), (8, 192), (9, 256), (10, 512), (11, 1024), (12, 2080), (13, 4096), (14, 8193), (15, 32767)])] (by kernel_rfl) _ _ _ fun b l hfit => ⟨rfl,
  [(6, invA Nat [(7, 49, 3), (8, 34, 0)] (7 :: 8 :: 9 :: 14 :: 15 :: 16 :: 17 :: 18 :: 19 :: 20 :: 21 :: 22 :: 23 :: 24 :: 25 :: 26 :: 27 :: 28 :: 29 :: 30 :: 31 :: 32 :: 33 :: 34 :: 35 :: 36 :: 37 :: 38 :: 39 :: 40 :: 41 :: 42 :: 43 :: 44 :: 45 :: 46 :: 47 :: 48 :: 49 :: []) [] (fun i => i ≤ l.length) (fun i => fun st => withS [(9, .int .i64 i), (7, .own 49), (8, .own 34)] (withR [(49, .own (.peers (leftP (l.take i)))), (34, .own (.ints (lostP (l.take i))))] st)) (fun i => l.length - i))], ?_⟩
 have hlen : l.length * 16 ≤ 140737488355328 := hfit.2.1
 clear hfit
 refine V2 ?_; constructor <;> (first | (with_reducible exact TT.i) | (intros; (repeat (apply Wk.mk; intro Kv hN hX hR)); apply Wr.mk))
 all_goals first
  | (rw [ageP_no (nf aQ)] <;> rfl)
  | (refine ⟨0, Nat.zero_le _, ?_⟩
     refine V1 ?_; constructor <;> (first | (with_reducible exact TT.i) | (intros; (repeat (apply Wk.mk; intro Kv hN hX hR)); apply Wr.mk))
     all_goals rfl)
  | (with_reducible intro i hi
     have hi : i ≤ l.length := hi
     have hB : peersB b l = true := nt aQ
     refine V3 ?_; constructor <;> (first | (with_reducible exact TT.i) | (intros; (repeat (apply Wk.mk; intro Kv hN hX hR)); apply Wr.mk))
     all_goals (try simp only [Int.toNat_natCast] at *)
     all_goals first
      | exact Ob.mk ⟨by omega, of_decide_eq_true aQ⟩
      | (refine Ob.mk ?_
         have g1 := leftP_len (l.take i)
         have g2 := lostP_len (l.take i)
         simp only [Rw.len, Rw.bts, Rw.kd, kdBytes, List.length_cons, List.length_nil, List.length_append, List.length_take] at *
         omega)
      | (have h := of_decide_eq_true (show decide ((i : Int) < (l.length : Nat)) = true by with_reducible assumption)
         have hm := missed_in hB (i := i) (by omega)
         have w1 : IntKind.i64.wrap ((l.getD i default).missed + 1) = (l.getD i default).missed + 1 := wrapI (by omega) (by omega)
         have e1 := leftP_succ (l := l) (i := i) (by omega)
         have e2 := lostP_succ (l := l) (i := i) (by omega)
         first
          | (have h3 := of_decide_eq_true (show decide (IntKind.i64.wrap ((l.getD i default).missed + 1) = 3) = true by with_reducible assumption)
             rw [w1] at h3
             rw [if_pos h3] at e1 e2
             rw [List.append_nil] at e1
             refine ⟨i + 1, by omega, by omega, ?_⟩
             refine V1 ?_; constructor <;> (first | (with_reducible exact TT.i) | (intros; (repeat (apply Wk.mk; intro Kv hN hX hR)); apply Wr.mk))
             all_goals first
              | exact wrapI (by omega) (by omega)
              | exact congrArg Rw.peers e1.symm
              | exact congrArg Rw.ints e2.symm
              | rfl)
          | (have h3 := of_decide_eq_false (show decide (IntKind.i64.wrap ((l.getD i default).missed + 1) = 3) = false by with_reducible assumption)
             rw [w1] at h3
             rw [if_neg h3] at e1 e2
             rw [List.append_nil] at e2
             rw [← w1] at e1
             refine ⟨i + 1, by omega, by omega, ?_⟩
             refine V1 ?_; constructor <;> (first | (with_reducible exact TT.i) | (intros; (repeat (apply Wk.mk; intro Kv hN hX hR)); apply Wr.mk))
             all_goals first
              | exact wrapI (by omega) (by omega)
              | exact congrArg Rw.peers e1.symm
              | exact congrArg Rw.ints e2.symm
              | rfl))
      | (have h := of_decide_eq_false (show decide ((i : Int) < (l.length : Nat)) = false by with_reducible assumption)
         first
          | (rw [ageP_yes hB]; done)
          | (rw [ageP_yes hB, List.take_of_length_le (by omega)]; done)))
set_option maxHeartbeats 2000000 in
theorem k_refAgeView : Known Tryz.prog tau 75 (S1 dView oTickV) := by
 refine known1 hmix tau_ok (ctx_cons k_refView (ctx_cons k_refWith (ctx_cons k_refAge (ctx_cons k_refNames ctx_nil)))) (fn := Tryz.f75) (by kernel_rfl) [] (by kernel_rfl) _ _ fun v hfit => ⟨rfl,
  [(6, invF (Nat × List Int) [22] (26 :: 29 :: [8, 9, 10, 11, 30, 31, 32, 33, 34, 35, 36, 37, 38, 39, 40, 41, 42, 43, 44, 45]) [] (fun g => g.1 ≤ (lostP v.peers).length ∧ g.2.length ≤ v.passive.length + g.1 ∧ foldW v.passive (lostP v.peers) = foldW g.2 ((lostP v.peers).drop g.1)) (fun g => match g with
    | (i, acc) => fun st => withS [(9, .int .i64 i), (8, .row .new (.ints acc))] st) (fun g => (lostP v.peers).length - g.1))], ?_⟩
 have hp : v.peers.length * 16 ≤ 140737488355328 := hfit.1.2.1
 have hp2 : v.passive.length * 8 ≤ 140737488355328 := hfit.1.2.2.1
 clear hfit
 refine V2 ?_; constructor <;> (first | (with_reducible exact TT.i) | (intros; (repeat (apply Wk.mk; intro Kv hN hX hR)); apply Wr.mk))
 all_goals first
  | (rw [tickV_no (nf aQ)] <;> rfl)
  | (refine Ob.mk ?_
     simp only [Rw.len, Rw.bts, Rw.kd, kdBytes, List.length_nil]
     omega)
  | (have hB : viewB v = true := nt aQ
     have hP := (viewB_iff.1 hB).1
     have ha := ageP_yes hP
     refine ⟨(0, v.passive), ⟨Nat.zero_le _, by simp, rfl⟩, ?_⟩
     refine V1 ?_; constructor <;> (first | (with_reducible exact TT.i) | (intros; (repeat (apply Wk.mk; intro Kv hN hX hR)); apply Wr.mk))
     all_goals rfl)
  | (rintro ⟨i, acc⟩ ⟨hi, hl, hf⟩
     dsimp only at hi hl hf
     have hB : viewB v = true := nt aQ
     have hP := (viewB_iff.1 hB).1
     have hP16 := (viewB_iff.1 hB).2.2.1
     have ha := ageP_yes hP
     have hl2 := leftlost_len v.peers
     have ht := tickV_yes hB
     refine V1 ?_; constructor <;> (first | (with_reducible exact TT.i) | (intros; (repeat (apply Wk.mk; intro Kv hN hX hR)); apply Wr.mk))
     all_goals (try dsimp only at *)
     all_goals (try simp only [ha, Int.toNat_natCast] at *)
     all_goals first
      | exact Ob.mk ⟨by omega, of_decide_eq_true aQ⟩
      | (have h := of_decide_eq_true (show decide ((i : Int) < ((lostP v.peers).length : Nat)) = true by with_reducible assumption)
         have hw := withP_len acc ((lostP v.peers).getD i 0)
         refine ⟨(i + 1, (withP acc ((lostP v.peers).getD i 0)).1), ⟨by show i + 1 ≤ (lostP v.peers).length; omega, by show (withP acc ((lostP v.peers).getD i 0)).1.length ≤ v.passive.length + (i + 1); omega, by rw [hf, foldW_next (by omega)]⟩, by show (lostP v.peers).length - (i + 1) < (lostP v.peers).length - i; omega, ?_⟩
         refine V1 ?_; constructor <;> (first | (with_reducible exact TT.i) | (intros; (repeat (apply Wk.mk; intro Kv hN hX hR)); apply Wr.mk))
         all_goals first
          | exact wrapI (by omega) (by omega)
          | rfl)
      | (have h := of_decide_eq_false (show decide ((i : Int) < ((lostP v.peers).length : Nat)) = false by with_reducible assumption)
         have e1 : foldW v.passive (lostP v.peers) = acc := by rw [hf, foldW_end (by omega)]
         first
          | (refine Ob.mk ?_
             simp only [Rw.len, Rw.bts, Rw.kd, kdBytes, namesP_len]
             omega)
          | (rw [ht]; done)
          | (rw [ht, e1]; done)))
end Go.Proofs.YtjjpakdlkjaigaaGreat

/- Contracts: the least distance. -/
namespace Go.Proofs.YtjjpakdlkjaigaaGreat
open Go.RowKit
set_option maxRecDepth 20000
def dPInt : Dec Int := ⟨fun x => match x with
 | .pt .any [.int .i64 n] => some n
 | _ => none, fun n => .pt .any [.int .i64 n], fun x a h => by
   split at h <;> simp at h; subst h; rfl⟩
def dFnInt (f : FuncId) : Dec Int := ⟨fun x => match x with
 | .clo g [] [.pt .any [.int .i64 n]] => if g = f then some n else none
 | _ => none, fun n => .clo f [] [.pt .any [.int .i64 n]], fun x a h => by
   split at h
   · split at h
     · rename_i g n hg; simp at h; subst h; subst hg; rfl
     · simp at h
   · simp at h⟩
theorem k_By1 : Known Tryz.prog tau 239 (S3 dInt dInt dPInt fun a b k => .ok (.int .i64 (cmpI (farI k a) (farI k b))) []) := by
 refine known3 hmix tau_ok (ctx_cons k_Far (ctx_cons k_cmpCompare ctx_nil)) (fn := Tryz.f239) (by kernel_rfl) [(1, [(0, 0), (1, 0), (2, 3), (3, 0), (4, 0), (5, 28), (6, 36), (7, 127)])] (by kernel_rfl) _ _ _ _ fun a b k hfit => ⟨rfl, [], ?_⟩
 clear hfit
 refine V3 ?_; constructor <;> (first | (with_reducible exact TT.i) | (intros; (repeat (apply Wk.mk; intro Kv hN hX hR)); apply Wr.mk))
 all_goals first
  | rfl
theorem t_By : TrKnown Tryz.prog tau 227 (inlT tau (mkCtx []) [] [] Tryz.f227) := inl_ok hmix tau_ok ctx_nil (by kernel_rfl) [] (by kernel_rfl) []
def minP (k : Int) : Int → List Int → Int
 | b, [] => b
 | b, x :: l => minP k (if farI k x < farI k b then x else b) l
theorem minP_next {k b : Int} {l : List Int} {i : Nat} (h : i < l.length) : minP k b (l.drop i) = minP k (if farI k (l.getD i 0) < farI k b then l.getD i 0 else b) (l.drop (i + 1)) := by
 rw [drop_one_more (d := 0) h, minP]
theorem minP_end {k b : Int} {l : List Int} {i : Nat} (h : ¬ i < l.length) : minP k b (l.drop i) = b := by
 rw [List.drop_eq_nil_of_le (by omega)]
 rfl
set_option maxHeartbeats 1000000 in
theorem k_MinFunc : Known Tryz.prog tau 226 (S2 dInts (dFnInt 239) fun l k => .ob (0 < l.length) (.int .i64 (minP k (l.getD 0 0) (l.drop 1))) []) := by
 refine known2 hmix tau_ok (ctx_cons k_By1 ctx_nil) (fn := Tryz.f226) (by kernel_rfl) [] (by kernel_rfl) _ _ _ fun l k hfit hs => ⟨rfl,
  [(5, invX (Nat × Int) [5, 6, 14, 15, 16, 17, 18, 19, 20, 21, 22, 23, 24, 25, 26, 27, 28, 29, 30, 31] [] (fun g => 1 ≤ g.1 ∧ g.1 ≤ l.length ∧ minP k (l.getD 0 0) (l.drop 1) = minP k g.2 (l.drop g.1)) (fun g => match g with
    | (i, b) => withS [(6, .int .i64 i), (5, .int .i64 b)]) (fun g => l.length - g.1))], ?_⟩
 have hlen : l.length * 8 ≤ 140737488355328 := hfit.1
 clear hfit
 refine V2 ?_; constructor <;> (first | (with_reducible exact TT.i) | (intros; (repeat (apply Wk.mk; intro Kv hN hX hR)); apply Wr.mk))
 all_goals first
  | (exfalso
     have h := of_decide_eq_true (show decide ((l.length : Int) < 1) = true by with_reducible assumption)
     omega)
  | exact Ob.mk ⟨by decide, by omega⟩
  | (refine ⟨(1, l.getD 0 0), ⟨Nat.le_refl _, hs, rfl⟩, ?_⟩
     refine V1 ?_; constructor <;> (first | (with_reducible exact TT.i) | (intros; (repeat (apply Wk.mk; intro Kv hN hX hR)); apply Wr.mk))
     all_goals rfl)
  | (rintro ⟨i, b⟩ ⟨h1, h2, h3⟩
     dsimp only at h1 h2 h3
     refine V1 ?_; constructor <;> (first | (with_reducible exact TT.i) | (intros; (repeat (apply Wk.mk; intro Kv hN hX hR)); apply Wr.mk))
     all_goals (try dsimp only at *)
     all_goals (try simp only [Int.toNat_natCast, cmpI_lt] at *)
     all_goals first
      | exact Ob.mk ⟨by omega, of_decide_eq_true aQ⟩
      | (have h := of_decide_eq_true (show decide ((i : Int) < (l.length : Nat)) = true by with_reducible assumption)
         have e1 := minP_next (k := k) (b := b) (l := l) (i := i) (by omega)
         first
          | (have h4 := of_decide_eq_true (show decide (farI k (l.getD i 0) < farI k b) = true by with_reducible assumption)
             rw [if_pos h4] at e1
             refine ⟨(i + 1, l.getD i 0), ⟨by show 1 ≤ i + 1; omega, by show i + 1 ≤ l.length; omega, h3.trans e1⟩, by show l.length - (i + 1) < l.length - i; omega, ?_⟩
             refine V1 ?_; constructor <;> (first | (with_reducible exact TT.i) | (intros; (repeat (apply Wk.mk; intro Kv hN hX hR)); apply Wr.mk))
             all_goals first
              | exact wrapI (by omega) (by omega)
              | rfl)
          | (have h4 := of_decide_eq_false (show decide (farI k (l.getD i 0) < farI k b) = false by with_reducible assumption)
             rw [if_neg h4] at e1
             refine ⟨(i + 1, b), ⟨by show 1 ≤ i + 1; omega, by show i + 1 ≤ l.length; omega, h3.trans e1⟩, by show l.length - (i + 1) < l.length - i; omega, ?_⟩
             refine V1 ?_; constructor <;> (first | (with_reducible exact TT.i) | (intros; (repeat (apply Wk.mk; intro Kv hN hX hR)); apply Wr.mk))
             all_goals first
              | exact wrapI (by omega) (by omega)
              | rfl))
      | (have h := of_decide_eq_false (show decide ((i : Int) < (l.length : Nat)) = false by with_reducible assumption)
         rw [h3, minP_end (by omega)]))
def rowMayB (k : Int) (l : List Int) : Bool := placeB k && (decide (l.length ≤ 64) && l.all placeB)
theorem k_rowMay : Known Tryz.prog tau 225 (S2 dInt dInts fun k l => okB (rowMayB k l)) := by
 refine known2 hmix tau_ok (ctx_cons k_Place (ctx_cons k_Places ctx_nil)) (fn := Tryz.f225) (by kernel_rfl) [] (by kernel_rfl) _ _ _ fun k l hfit => ⟨rfl, [], ?_⟩
 clear hfit
 refine V1 ?_; constructor <;> (first | (with_reducible exact TT.i) | (intros; (repeat (apply Wk.mk; intro Kv hN hX hR)); apply Wr.mk))
 all_goals first
  | (have h1 : placeB k = true := by with_reducible assumption
     have h2 := of_decide_eq_true (show decide ((l.length : Int) ≤ 64) = true by with_reducible assumption)
     unfold rowMayB
     rw [h1, decide_eq_true (show l.length ≤ 64 by omega)]
     simp
     done)
  | (have h2 := of_decide_eq_false (show decide ((l.length : Int) ≤ 64) = false by with_reducible assumption)
     unfold rowMayB
     rw [decide_eq_false (show ¬ l.length ≤ 64 by omega)]
     simp
     done)
  | (have h1 : placeB k = false := by with_reducible assumption
     unfold rowMayB
     rw [h1]
     rfl)
noncomputable def ownP (l : List Int) (k : Int) : Int × Int := Classical.choose (seal_ex (if rowMayB k l = true ∧ 0 < l.length then (minP k (l.getD 0 0) (l.drop 1), (0 : Int)) else (0, 200)))
theorem ownP_def (l : List Int) (k : Int) : ownP l k = if rowMayB k l = true ∧ 0 < l.length then (minP k (l.getD 0 0) (l.drop 1), 0) else (0, 200) := Classical.choose_spec (seal_ex _)
theorem ownP_yes {l : List Int} {k : Int} (h : rowMayB k l = true) (h2 : 0 < l.length) : ownP l k = (minP k (l.getD 0 0) (l.drop 1), 0) := by rw [ownP_def, if_pos ⟨h, h2⟩]
theorem ownP_no {l : List Int} {k : Int} (h : rowMayB k l = false ∨ l.length = 0) : ownP l k = (0, 200) := by
 rw [ownP_def, if_neg]
 rintro ⟨h1, h2⟩
 rcases h with h | h
 · rw [h1] at h; simp at h
 · omega
noncomputable def oOwn (l : List Int) (k : Int) : Out := .ok (.tup [.int .i64 (ownP l k).1, .int .i64 (ownP l k).2]) []
theorem k_rowOwner : Known Tryz.prog tau 202 (S2 dInts dInt oOwn) := by
 refine knownX2 hmix tau_ok (fn := Tryz.f202) (by kernel_rfl) [] (by kernel_rfl) _ _ _ fun l k hfit => ⟨rfl, _, ctx_tr t_By (ctx_cons k_rowMay (ctx_cons k_MinFunc ctx_nil)), [], ?_⟩
 clear hfit
 refine V1 ?_; constructor <;> (first | (with_reducible exact TT.i) | (intros; (repeat (apply Wk.mk; intro Kv hN hX hR)); apply Wr.mk))
 all_goals first
  | (rw [ownP_no (.inl (nf (show (!rowMayB k l) = true by with_reducible assumption)))]; done)
  | (have h := of_decide_eq_true (show decide ((l.length : Int) = 0) = true by with_reducible assumption)
     rw [ownP_no (.inr (by omega))]
     done)
  | (have h := of_decide_eq_false (show decide ((l.length : Int) = 0) = false by with_reducible assumption)
     have h1 : rowMayB k l = true := nt aQ
     first
      | exact Ob.mk (by omega)
      | (rw [ownP_yes h1 (by omega)]; done))
end Go.Proofs.YtjjpakdlkjaigaaGreat

/- A symbolic executor for loaded Go code: slices.DeleteFunc over whole numbers, what is like one number taken out. -/
namespace Go.Proofs.YtjjpakdlkjaigaaGreat
open Go.RowKit Go.Sort
structure DelFW (P : Program) (f g : FuncId) : Prop where
 ent : Enters P f
 nil : ∀ (b : Nat) (y : Int) (w : World), w.cell? ⟨b, 0, none⟩ = some (.int .i64 y) → b < w.heap.size → Calls P f #[.slice none 0 0, .func (.func g) #[] #[.pointer (some ⟨b, 0, none⟩)]] w fun x w' => x = .returned (.slice none 0 0) ∧ Below w.heap.size w w'
 cells : ∀ (blk cap : Nat) (d : Array Int) (y : Int) (b : Nat) (w : World), w.cell? ⟨b, 0, none⟩ = some (.int .i64 y) → b < w.heap.size → b ≠ blk → blk < w.heap.size → Holds (Value.int .i64) w blk 0 d → d.size ≤ 9223372036854775807 → d.size ≤ cap →
  Calls P f #[.slice (some ⟨blk, 0, none⟩) d.size cap, .func (.func g) #[] #[.pointer (some ⟨b, 0, none⟩)]] w fun x w' => x = .returned (.slice (some ⟨blk, 0, none⟩) (d.toList.filter fun x => !decide (x = y)).length cap) ∧
   ∃ q, w' = putRow (Value.int .i64) (Sort.ahead w q) blk 0 ((d.toList.filter fun x => !decide (x = y)) ++ List.replicate (d.size - (d.toList.filter fun x => !decide (x = y)).length) 0).toArray
def delFT (g : FuncId) : CallT := fun args s K => match args, s with
 | [.own k, .clo g' [] [.box b off]], ⟨fr, stk, bx, rw, dep⟩ => match Nat.beq g g', off, lk rw k, lk bx b with
   | true, 0, some (.own (.ints l)), some (_, [.int .i64 y]) => forceF (killF k fr) fun fr' => forceS (killS k stk) fun stk' => forceB (killB k bx) fun bx' =>
      K (.own k) ⟨fr', stk', bx', upd rw k (.own (.ints (l.filter fun x => !decide (x = y)))), dep⟩
   | _, _, _, _ => False
 | _, _ => False
section
variable {P : Program} {τ : Tys}
theorem below_grownBy {w w' : World} (h : Below w.heap.size w w') (row : Option Nat) : w.grownBy w' row := ⟨h.os, h.tape, h.output, h.size, fun k hk _ => h.block k hk⟩
theorem putRow_heapI {w : World} {g : Nat} {cur : Array Value} {e : TypeId} (d : Array Int) (h : w.heap[g]? = some (.cells cur e (0, 0))) : (putRow (Value.int .i64) w g 0 d).heap[g]? = some (.cells (putCells (Value.int .i64) 0 d cur) e (0, 0)) := by
 unfold putRow mapBlock
 simp only [Array.getElem?_modify, if_true, h, Option.map_some, onCells]
theorem putRow_grownI (w : World) (g : Nat) (d : Array Int) : w.grownBy (putRow (Value.int .i64) w g 0 d) (some g) := by
 refine ⟨rfl, rfl, rfl, by simp [putRow, mapBlock], fun k hk hne => ?_⟩
 unfold putRow mapBlock
 simp only [Array.getElem?_modify]
 rw [if_neg (fun e => hne (by rw [e]))]
theorem putCells_take {cur : Array Value} {l m : List Int} (h : l.length + m.length ≤ cur.size) : (putCells (Value.int .i64) 0 (l ++ m).toArray cur).toList.take l.length = l.map (Value.int .i64) := by
 apply List.ext_getElem
 · simp [putCells]; omega
 · intro j h1 h2
   have hj : j < l.length := by simpa using h2
   simp only [putCells, List.getElem_take, Array.getElem_toList, Array.getElem_mapIdx, Nat.zero_le, true_and, Nat.zero_add, Nat.sub_zero, List.getElem_map]
   rw [if_pos (by simp; omega)]
   congr 1
   rw [getElem!_pos _ j (by simp; omega)]
   simp [List.getElem_append_left hj]
theorem delF_tr {f g : FuncId} (hW : DelFW P f g) : TrKnown P τ f (delFT g) := by
 refine ⟨hW.ent, ?_⟩
 intro w0 E s aS w args vals K hd hargs hT
 obtain ⟨fr, stk, bx, rw', dep⟩ := s
 unfold delFT at hT
 split at hT
 rotate_left
 · exact hT.elim
 rename_i s' k g' b off fr' stk' bx' rw2 dep' hs
 injection hs with e1 e2 e3 e4 e5
 subst e1; subst e2; subst e3; subst e4; subst e5
 obtain ⟨v, vs, rfl, h1, h2⟩ := hargs.inv_cons
 obtain ⟨v2, vs, rfl, h3, h2⟩ := h2.inv_cons
 obtain rfl := h2.inv_nil
 split at hT
 rotate_left
 · exact hT.elim
 rename_i l T y hg hk hb
 obtain rfl := Nat.eq_of_beq_eq_true hg
 obtain ⟨us0, vs0, rfl, ha, hc0⟩ := h3
 obtain rfl := ha.inv_nil
 obtain ⟨pv, vs1, rfl, hp, hc1⟩ := hc0.inv_cons
 obtain rfl := hc1.inv_nil
 obtain rfl : pv = .pointer (some ⟨E.bs b, 0, none⟩) := hp
 have h1 : vd0 E rw' w (.own k) v := h1
 simp only [vd0] at h1
 rw [hk] at h1
 have h1 : v = E.hs k := h1
 subst h1
 simp only [forceF_eq, forceS_eq, forceB_eq] at hT
 have hB := hd.box b _ _ hb
 obtain ⟨bus, hbh, hbc⟩ := hB.cells
 obtain ⟨bu, bus', rfl, hbu, hbn⟩ := hbc.inv_cons
 obtain rfl := hbn.inv_nil
 obtain rfl : bu = .int .i64 y := hbu
 have hbl := (hd.owb _ hB.ow).2
 have hcell : w.cell? ⟨E.bs b, 0, none⟩ = some (.int .i64 y) := by simp [World.cell?, hbh]
 have hO := hd.own k _ _ _ hk rfl
 obtain ⟨us, hrow, hc⟩ := hO.row
 have hul : us.length = l.length := by have := hrow.1; simpa [Rw.len, Rw.sz, Rw.kd, kdSz] using this
 have hus : us = l.map (Value.int .i64) := by
  apply List.ext_getElem (by simp [hul])
  intro j h1 h2
  have hj : j < l.length := by omega
  obtain ⟨u, hu, hcd⟩ := hc j 0 (.int .i64 (l.getD j 0)) hj rfl
  have hcd : u = .int .i64 (l.getD j 0) := hcd
  simp only [Rw.sz, Rw.kd, kdSz, Nat.mul_one, Nat.add_zero] at hu
  rw [List.getElem?_eq_getElem h1] at hu
  injection hu with hu
  rw [hu, hcd, List.getElem_map, List.getD_eq_getElem?_getD, List.getElem?_eq_getElem hj]
  rfl
 obtain ⟨F, hF⟩ : ∃ F, F = l.filter fun x => !decide (x = y) := ⟨_, rfl⟩
 have hFl : F.length ≤ l.length := by rw [hF]; exact List.length_filter_le ..
 have hcellN : ∀ (w' : World) (v' : Value), ∀ m q x, m < (Rw.ints F).len → ((Rw.ints F).cell .any m)[q]? = some x → ∃ u, (F.map (Value.int .i64))[m * (Rw.ints F).sz + q]? = some u ∧ cd1 w' ((E.add k v').F w' (if m < (Rw.ints F).len then .new else .any)) x u := by
  intro w' v' m q x hm hx
  have hm : m < F.length := hm
  simp only [Rw.cell] at hx
  cases q with
  | succ q => simp at hx
  | zero =>
    simp at hx
    subst hx
    refine ⟨.int .i64 (F.getD m 0), ?_, rfl⟩
    simp [Rw.sz, Rw.kd, kdSz, List.getElem?_map, List.getElem?_eq_getElem hm, List.getD_eq_getElem?_getD]
 have hfits : (Rw.ints F).len * (Rw.ints F).bts ≤ 140737488355328 := by
  have : l.length * 8 ≤ 140737488355328 := hO.fits
  show F.length * 8 ≤ _
  omega
 rw [← hF] at hT
 rcases hrow.2 with ⟨hv, h0⟩ | ⟨blk, cap, cur, hv, hgb, hheap, hnc, hcm, hcs, htake⟩
 · have hl0 : l = [] := List.eq_nil_of_length_eq_zero h0
   have hF0 : F = [] := by rw [hF, hl0]; rfl
   rw [hv]
   refine (hW.nil (E.bs b) y w hcell hbl).mono ?_
   rintro e w' ⟨rfl, hbw⟩
   have hgr := below_grownBy hbw (E.hs k).ownBlock
   refine ⟨_, _, _, E.add k (.slice none 0 0), rfl, hT, hd.growRow k w' hgr hk rfl (.slice none 0 0) (.own (.ints F)) F.length (.ints F) rfl [] (fun g hg => by simp [Value.ownBlock] at hg) hfits ?_ (fun m q x hm => by rw [hF0] at hm; exact absurd hm (Nat.not_lt_zero _)), rfl, Nat.le_refl _, ?_⟩
   · rw [hF0]
     exact World.ownsRow_nil _ _ _ _
   · simp [vd3, vd2, vd1, vd0, lk_upd, Env.add]
 · rw [hv]
   have hob' : (E.hs k).ownBlock = some blk := by rw [hv]; rfl
   have hne : E.bs b ≠ blk := fun e => hd.br b k _ _ _ hb hk rfl (by rw [hob', e])
   have hcs' : cur.size = cap := by simpa [Rw.sz, Rw.kd, kdSz] using hcs
   have htake' : cur.toList.take l.length = l.map (Value.int .i64) := by
    rw [← hus, ← htake]
    simp [Rw.len, Rw.sz, Rw.kd, kdSz]
   have hnc : l.length ≤ cap := hnc
   have hH : Holds (Value.int .i64) w blk 0 l.toArray := by
    intro j hj
    have hj : j < l.length := by simpa using hj
    refine ⟨?_, by simp [World.frozen?, hheap]⟩
    have h5 : (cur.toList.take l.length)[j]? = some (.int .i64 l[j]) := by rw [htake']; simp [hj]
    rw [List.getElem?_take_of_lt hj, Array.getElem?_toList] at h5
    simp only [World.cell?, hheap, Nat.zero_add, h5]
    congr 2
    rw [getElem!_pos _ j (by simpa using hj)]
    simp
   have hcall := hW.cells blk cap l.toArray y (E.bs b) w hcell hbl hne (Array.getElem?_eq_some_iff.1 hheap).1 hH (by simp; have : cap ≤ 9223372036854775807 := hcm; omega) (by simpa using hnc)
   simp only [List.size_toArray] at hcall
   rw [← hF] at hcall
   refine hcall.mono ?_
   rintro e w' ⟨rfl, q, rfl⟩
   have hheap2 : (Sort.ahead w q).heap[blk]? = some (.cells cur (τ.et (Rw.ints l).kd) (0, 0)) := hheap
   have hheap3 := putRow_heapI ((F ++ List.replicate (l.length - F.length) 0).toArray) hheap2
   obtain ⟨W', hW'⟩ : ∃ W', W' = putRow (Value.int .i64) (Sort.ahead w q) blk 0 (F ++ List.replicate (l.length - F.length) 0).toArray := ⟨_, rfl⟩
   have hgr : w.grownBy W' (some blk) := by
    rw [hW']
    have h7 := putRow_grownI (Sort.ahead w q) blk (F ++ List.replicate (l.length - F.length) 0).toArray
    exact ⟨h7.os, h7.tape, h7.output, h7.size, h7.block⟩
   rw [← hW'] at hheap3 ⊢
   refine ⟨_, _, _, E.add k (.slice (some ⟨blk, 0, none⟩) F.length cap), rfl, hT, hd.growRow k W' (by rw [hob']; exact hgr) hk rfl _ (.own (.ints F)) F.length (.ints F) rfl (F.map (Value.int .i64)) (fun g' hg' => ?_) hfits ?_ (hcellN W' _), rfl, Nat.le_refl _, ?_⟩
   · simp [Value.ownBlock] at hg'
     subst hg'
     exact ⟨.inr hob'.symm, (Array.getElem?_eq_some_iff.1 hheap3).1⟩
   · refine ⟨by simp [Rw.len, Rw.sz, Rw.kd, kdSz], .inr ⟨blk, cap, _, rfl, hgb, hheap3, by show F.length ≤ cap; omega, hcm, by simp [putCells, hcs', Rw.sz, Rw.kd, kdSz], ?_⟩⟩
     have h8 := putCells_take (cur := cur) (l := F) (m := List.replicate (l.length - F.length) 0) (by simp; omega)
     simpa [Rw.len, Rw.sz, Rw.kd, kdSz] using h8
   · simp [vd3, vd2, vd1, vd0, lk_upd, Env.add]
end
end Go.Proofs.YtjjpakdlkjaigaaGreat

/- slices.DeleteFunc over whole numbers. -/
namespace Go.Proofs.YtjjpakdlkjaigaaGreat
open Go.RowKit Go.Shelf Go.Lib Go.Sort
def renDF : Ren := ⟨fun x => match x with
 | 10 => 243
 | 6 => 136
 | n => n, fun x => match x with
 | 22 => 27
 | 23 => 3
 | 25 => 107
 | 3 => 3
 | 4 => 4
 | 0 => 0
 | n => n, fun x => x⟩
theorem layDF : SlLaysH.n10 Tryz.prog renDF := {
 mixed := by kernel_rfl
 f6 := ⟨Tryz.f136.name, by decide, Tryz.func136.trans (by kernel_rfl)⟩
 f10 := ⟨Tryz.f243.name, by decide, Tryz.func243.trans (by kernel_rfl)⟩
 t0 := Tryz.underlying0
 a0 := Tryz.isAgg0
 z0 := Tryz.sizeOf0
 v0 := Tryz.zeroValue0
 t3 := Tryz.underlying3
 a3 := Tryz.isAgg3
 z3 := Tryz.sizeOf3
 v3 := Tryz.zeroValue3
 t4 := Tryz.underlying4
 a4 := Tryz.isAgg4
 z4 := Tryz.sizeOf4
 v4 := Tryz.zeroValue4
 t22 := Tryz.underlying27
 a22 := Tryz.isAgg27
 z22 := Tryz.sizeOf27
 v22 := Tryz.zeroValue27
 a23 := Tryz.isAgg3
 z23 := Tryz.sizeOf3
 t25 := Tryz.underlying107
 a25 := Tryz.isAgg107
 z25 := Tryz.sizeOf107
 v25 := Tryz.zeroValue107 }
theorem gives_like (x y : Int) (B : Nat) (W : World) (hc : W.cell? ⟨B, 0, none⟩ = some (.int .i64 y)) :
  FnGives Tryz.prog 242 #[.pointer (some ⟨B, 0, none⟩)] #[.int .i64 x] (.bool (decide (x = y))) W := by
 show Calls Tryz.prog 242 #[.int .i64 x, .pointer (some ⟨B, 0, none⟩)] W _
 go_enter Tryz.func242, Tryz.ntmps242
 go_wp2
 all_goals (go_ret; exact ⟨by first | (simp_all; done) | (simp_all; rfl), 0, rfl⟩)
theorem pred_like (y : Int) (B : Nat) (w : World) (hB : B < w.heap.size) (hcell : w.cell? ⟨B, 0, none⟩ = some (.int .i64 y)) :
  PredAt Tryz.prog 242 #[.pointer (some ⟨B, 0, none⟩)] (Value.int .i64) (fun x => decide (x = y)) w :=
 fun W x hb => gives_like x y B W ((hb.cell (p := ⟨B, 0, none⟩) hB).trans hcell)
theorem over_like (y : Int) (B blk off size : Nat) (w : World) (hB : B < w.heap.size) (hne : B ≠ blk) (hcell : w.cell? ⟨B, 0, none⟩ = some (.int .i64 y)) :
  PredOver Tryz.prog 242 #[.pointer (some ⟨B, 0, none⟩)] (Value.int .i64) (fun x => decide (x = y)) blk off size w :=
 fun n os dk x _ => gives_like x y B _ (by
  unfold sortWorld
  rw [cell?_grow _ _ _ (by show B < (putRow _ _ _ _ _).heap.size; rw [size_putRow]; exact hB), cell?_putRow_other _ _ blk off _ _ (Or.inl hne)]
  exact hcell)
theorem k_like : Known Tryz.prog tau 242 (S2 dInt dPInt fun x y => okB (decide (x = y))) := by
 refine known2 hmix tau_ok ctx_nil (fn := Tryz.f242) (by kernel_rfl) [] (by kernel_rfl) _ _ _ fun x y hfit => ⟨rfl, [], ?_⟩
 clear hfit
 refine V1 ?_; constructor <;> (first | (with_reducible exact TT.i) | (intros; (repeat (apply Wk.mk; intro Kv hN hX hR)); apply Wr.mk))
 all_goals first
  | rfl
theorem k_likeIdx : Known Tryz.prog tau 136 (S2 dInts (dFnInt 242) fun l y => .ok (.int .i64 (idxI (fun x => decide (x = y)) l)) []) := by
 refine known2 hmix tau_ok (ctx_cons k_like ctx_nil) (fn := Tryz.f136) (by kernel_rfl) [] (by kernel_rfl) _ _ _ fun xs v hfit => ⟨rfl,
  [(2, invN [4, 5, 8, 9, 10, 11, 12, 13, 14, 15, 16, 17, 18] (fun i => i ≤ xs.length ∧ ∀ x ∈ xs.take i, decide (x = v) = false) (fun i => withS [(8, .int .i64 i)]) (fun i => xs.length - i))], ?_⟩
 have hlen : xs.length * 8 ≤ 140737488355328 := hfit.1
 clear hfit
 refine V2 ?_; constructor <;> (first | (with_reducible exact TT.i) | (intros; (repeat (apply Wk.mk; intro Kv hN hX hR)); apply Wr.mk))
 all_goals first
  | (refine ⟨0, ⟨by omega, by simp⟩, ?_⟩
     refine V1 ?_; constructor <;> (first | (with_reducible exact TT.i) | (intros; (repeat (apply Wk.mk; intro Kv hN hX hR)); apply Wr.mk))
     all_goals rfl)
  | (with_reducible intro i hi
     refine V1 ?_; constructor <;> (first | (with_reducible exact TT.i) | (intros; (repeat (apply Wk.mk; intro Kv hN hX hR)); apply Wr.mk))
     all_goals (try simp only [Int.toNat_natCast] at *)
     all_goals first
      | exact Ob.mk ⟨by omega, of_decide_eq_true aQ⟩
      | (have h := of_decide_eq_true (show decide ((i : Int) < (xs.length : Nat)) = true by with_reducible assumption)
         exact (idxI_at (d := 0) (by omega) hi.2 aQ).symm)
      | (have h := of_decide_eq_true (show decide ((i : Int) < (xs.length : Nat)) = true by with_reducible assumption)
         refine ⟨i + 1, ⟨by omega, all_take_succ (d := 0) (by omega) hi.2 aQ⟩, by show xs.length - (i + 1) < xs.length - i; omega, ?_⟩
         refine V1 ?_; constructor <;> (first | (with_reducible exact TT.i) | (intros; (repeat (apply Wk.mk; intro Kv hN hX hR)); apply Wr.mk))
         all_goals first
          | exact wrapI (by omega) (by omega)
          | rfl)
      | (have h := of_decide_eq_false (show decide ((i : Int) < (xs.length : Nat)) = false by with_reducible assumption)
         have h2 := hi.2
         rw [List.take_of_length_le (by omega)] at h2
         exact (idxI_none h2).symm))
theorem w_DelF : DelFW Tryz.prog 243 242 := by
 have ent : Enters Tryz.prog 243 := enters_of Tryz.func243 (by kernel_rfl) rfl
 refine ⟨ent, fun b y w hc hb => ?_, fun blk cap d y b w hc hb hne hblk hH hsz hcap => ?_⟩
 · have hv := k_likeIdx.valid [dInts.e [], (dFnInt 242).e y] [.slice none 0 0, .func (.func 242) #[] #[.pointer (some ⟨b, 0, none⟩)]] w (.cons (empty_row rfl _) (.cons ⟨[], [.pointer (some ⟨b, 0, none⟩)], rfl, L0.nil, .cons ⟨⟨b, 0, none⟩, rfl, rfl, hb, ⟨fun h => h, trivial⟩, fun j x hx => by
    cases j with
    | zero => simp at hx; subst hx; exact ⟨.int .i64 y, hc, rfl⟩
    | succ j => simp at hx⟩ L0.nil⟩ L0.nil))
   have hv : Calls Tryz.prog 136 #[.slice none 0 0, .func (.func 242) #[] #[.pointer (some ⟨b, 0, none⟩)]] w fun e w' => ∃ z, e = .returned z ∧ Below w.heap.size w w' ∧ Res tau w.heap.size w' (.int .i64 (idxI (fun x => decide (x = y)) [])) [] z := by
    simpa [S2, dInts, dFnInt, Out.good] using hv
   have hv2 : Calls Tryz.prog 136 #[.slice none 0 0, .func (.func 242) #[] #[.pointer (some ⟨b, 0, none⟩)]] w fun e w' => e = .returned (.int .i64 (-1)) ∧ Below w.heap.size w w' := hv.mono (by
    rintro e w' ⟨z, rfl, h1, ⟨E, _, _, _, _, _, h2⟩⟩
    obtain rfl : z = .int .i64 (-1) := h2
    exact ⟨rfl, h1⟩)
   clear hv
   have e6 : ∀ args w, (callFunc 136 args).run Tryz.prog w = .ok (.enter 136 args) w := enters_of Tryz.func136 (by kernel_rfl) rfl
   have mixed := hmix
   go_enter Tryz.func243, Tryz.ntmps243
   go_wp2_with (go_at_fn 136; refine hv2.mono ?_; rintro e w' ⟨rfl, hbw⟩)
   go_ret
   exact ⟨rfl, hbw⟩
 · have eg : ∀ args w, (callFunc 242 args).run Tryz.prog w = .ok (.enter 242 args) w := enters_of Tryz.func242 (by kernel_rfl) rfl
   exact AnyE.slices_DeleteFunc layDF (Value.int .i64) (fun _ => rfl) (fun x => decide (x = y)) 242 #[.pointer (some ⟨b, 0, none⟩)] eg 0 Tryz.zeroValue3 blk 0 cap d w (pred_like y b w hb hc) (over_like y b blk 0 d.size w hb hne hc) hH hsz hcap
theorem t_DelF : TrKnown Tryz.prog tau 243 (delFT 242) := delF_tr w_DelF
end Go.Proofs.YtjjpakdlkjaigaaGreat

/- Contracts: a greeting: the program's. -/
namespace Go.Proofs.YtjjpakdlkjaigaaGreat
open Go.RowKit
set_option maxRecDepth 20000
noncomputable def oWithout (l : List Int) (x : Int) : Out := .ok (.tup [.own 0, .int .i64 (withoutP l x).2]) [.ints (withoutP l x).1]
theorem k_Without : Known Tryz.prog tau 231 (S2 dInts dInt oWithout) := by
 refine knownX2 hmix tau_ok (fn := Tryz.f231) (by kernel_rfl) [] (by kernel_rfl) _ _ _ fun l x hfit => ⟨rfl, _, ctx_tr t_DelF (ctx_cons k_passMay (ctx_cons k_Place (ctx_cons k_CloneInts ctx_nil))), [], ?_⟩
 clear hfit
 refine V1 ?_; constructor <;> (first | (with_reducible exact TT.i) | (intros; (repeat (apply Wk.mk; intro Kv hN hX hR)); apply Wr.mk))
 all_goals first
  | (rw [withoutP_no (.inl (nf aQ))] <;> rfl)
  | (rw [withoutP_no (.inr (nf aQ))] <;> rfl)
  | (rw [withoutP_yes (nt (show (!passB l) = false by with_reducible assumption)) (nt (show (!placeB x) = false by with_reducible assumption))] <;> rfl)
theorem k_sIndex : Known Tryz.prog tau 245 (S2 dInts dInt fun l x => .ok (.int .i64 (idxI (fun y => decide (x = y)) l)) []) := by
 refine known2 hmix tau_ok ctx_nil (fn := Tryz.f245) (by kernel_rfl) [] (by kernel_rfl) _ _ _ fun xs v hfit => ⟨rfl,
  [(2, invN [4, 5, 8, 9, 10, 11, 12, 13, 14, 15, 16, 17, 18] (fun i => i ≤ xs.length ∧ ∀ x ∈ xs.take i, decide (v = x) = false) (fun i => withS [(8, .int .i64 i)]) (fun i => xs.length - i))], ?_⟩
 have hlen : xs.length * 8 ≤ 140737488355328 := hfit.1
 clear hfit
 refine V2 ?_; constructor <;> (first | (with_reducible exact TT.i) | (intros; (repeat (apply Wk.mk; intro Kv hN hX hR)); apply Wr.mk))
 all_goals first
  | (refine ⟨0, ⟨by omega, by simp⟩, ?_⟩
     refine V1 ?_; constructor <;> (first | (with_reducible exact TT.i) | (intros; (repeat (apply Wk.mk; intro Kv hN hX hR)); apply Wr.mk))
     all_goals rfl)
  | (with_reducible intro i hi
     refine V1 ?_; constructor <;> (first | (with_reducible exact TT.i) | (intros; (repeat (apply Wk.mk; intro Kv hN hX hR)); apply Wr.mk))
     all_goals (try simp only [Int.toNat_natCast] at *)
     all_goals first
      | exact Ob.mk ⟨by omega, of_decide_eq_true aQ⟩
      | (have h := of_decide_eq_true (show decide ((i : Int) < (xs.length : Nat)) = true by with_reducible assumption)
         exact (idxI_at (d := 0) (by omega) hi.2 aQ).symm)
      | (have h := of_decide_eq_true (show decide ((i : Int) < (xs.length : Nat)) = true by with_reducible assumption)
         refine ⟨i + 1, ⟨by omega, all_take_succ (d := 0) (by omega) hi.2 aQ⟩, by show xs.length - (i + 1) < xs.length - i; omega, ?_⟩
         refine V1 ?_; constructor <;> (first | (with_reducible exact TT.i) | (intros; (repeat (apply Wk.mk; intro Kv hN hX hR)); apply Wr.mk))
         all_goals first
          | exact wrapI (by omega) (by omega)
          | rfl)
      | (have h := of_decide_eq_false (show decide ((i : Int) < (xs.length : Nat)) = false by with_reducible assumption)
         have h2 := hi.2
         rw [List.take_of_length_le (by omega)] at h2
         exact (idxI_none h2).symm))
theorem hasI_symm (l : List Int) (x : Int) : (l.any fun y => decide (x = y)) = hasI l x := by
 unfold hasI
 congr 1
 funext y
 exact decide_eq_decide.2 ⟨fun h => h.symm, fun h => h.symm⟩
theorem k_sContains : Known Tryz.prog tau 233 (S2 dInts dInt fun l x => okB (hasI l x)) := by
 refine known2 hmix tau_ok (ctx_cons k_sIndex ctx_nil) (fn := Tryz.f233) (by kernel_rfl) [] (by kernel_rfl) _ _ _ fun xs v hfit => ⟨rfl, [], ?_⟩
 clear hfit
 refine V1 ?_; constructor <;> (first | (with_reducible exact TT.i) | (intros; (repeat (apply Wk.mk; intro Kv hN hX hR)); apply Wr.mk))
 all_goals first
  | (rw [← hasI_symm]
     exact idxI_ge _ _)
theorem k_viewPassive : Known Tryz.prog tau 216 (S2 dPView dInt fun v x => okB (hasI v.passive x)) := by
 refine known2 hmix tau_ok (ctx_cons k_sContains ctx_nil) (fn := Tryz.f216) (by kernel_rfl) [] (by kernel_rfl) _ _ _ fun v x hfit => ⟨rfl, [], ?_⟩
 clear hfit
 refine V3 ?_; constructor <;> (first | (with_reducible exact TT.i) | (intros; (repeat (apply Wk.mk; intro Kv hN hX hR)); apply Wr.mk))
 all_goals first
  | rfl
theorem k_room : Known Tryz.prog tau 230 (S1 dPView fun v => .ob (v.peers.length ≤ 16 ∧ v.passive.length ≤ 16) (.bool (decide (v.peers.length + v.passive.length < 16))) []) := by
 refine known1 hmix tau_ok ctx_nil (fn := Tryz.f230) (by kernel_rfl) [(1, [(0, 0), (1, 1), (2, 2), (3, 4), (4, 8), (5, 0), (6, 32), (7, 64), (8, 128), (9, 256), (10, 528), (11, 1024), (12, 4095)])] (by kernel_rfl) _ _ fun v hfit hs => ⟨rfl, [], ?_⟩
 clear hfit
 have e1 : IntKind.i64.wrap ((v.peers.length : Int) + (v.passive.length : Int)) = (v.peers.length : Int) + (v.passive.length : Int) := wrapI (by omega) (by omega)
 refine V3 ?_; constructor <;> (first | (with_reducible exact TT.i) | (intros; (repeat (apply Wk.mk; intro Kv hN hX hR)); apply Wr.mk))
 all_goals first
  | (rw [e1]
     exact decide_eq_decide.2 (by omega))
noncomputable abbrev heardCtx : List (FuncId × Spec) := [(209, S2 dPView dInt fun v x => .ob (RisingP v.id v.peers) (.bool (hasP v.id v.peers x)) []), (216, S2 dPView dInt fun v x => okB (hasI v.passive x)), (231, S2 dInts dInt oWithout), (232, S3 dInt dPeers dInt oHeard), (230, S1 dPView fun v => .ob (v.peers.length ≤ 16 ∧ v.passive.length ≤ 16) (.bool (decide (v.peers.length + v.passive.length < 16))) [])]
theorem t_heard : TrKnown Tryz.prog tau 215 (inlT tau (mkCtx heardCtx) [(3, [(0, 0), (1, 0), (2, 2), (3, 4), (4, 8), (5, 0), (6, 32), (7, 64), (8, 128), (9, 0), (10, 784), (11, 1024), (12, 2048), (13, 2048), (14, 8191), (15, 24575), (16, 40959)])] [] Tryz.f215) := inl_ok hmix tau_ok (ctx_cons k_viewPeer (ctx_cons k_viewPassive (ctx_cons k_Without (ctx_cons k_Heard (ctx_cons k_room ctx_nil))))) (by kernel_rfl) _ (by kernel_rfl) []
noncomputable def oHello (v : GView) (x : Int) (ids : List Int) : Out := .ok (.tup [.agg (vNew (helloV v x ids).1), .int .i64 (helloV v x ids).2]) []
theorem known_full {v : GView} {x : Int} (h1 : hasP v.id v.peers x = false) (h2 : hasI v.passive x = false) (h3 : decide (v.peers.length + v.passive.length < 16) = false) : knownV v x = v := by
 rw [knownV_def, if_pos ⟨by unfold knownB; rw [h1, h2]; rfl, by have := of_decide_eq_false h3; omega⟩]
theorem known_room {v : GView} {x : Int} (h3 : decide (v.peers.length + v.passive.length < 16) = true) : knownV v x = ⟨v.id, (heardP v.id v.peers x).1, (withoutP v.passive x).1⟩ := by
 rw [knownV_def, if_neg (by have := of_decide_eq_true h3; intro h; omega)]
theorem known_has {v : GView} {x : Int} (h : hasP v.id v.peers x = true ∨ hasI v.passive x = true) : knownV v x = ⟨v.id, (heardP v.id v.peers x).1, (withoutP v.passive x).1⟩ := by
 rw [knownV_def, if_neg]
 rintro ⟨h1, _⟩
 unfold knownB at h1
 rcases h with h | h <;> simp_all
theorem stepK_known {v : GView} {x : Int} (h1 : (!decide (x = v.id)) = true) (h2 : hasP v.id v.peers x = false) (h3 : hasI v.passive x = false) : stepK v x = knownV v x := by
 unfold stepK
 rw [if_pos ⟨by simpa using h1, by unfold knownB; rw [h2, h3]; rfl⟩]
theorem stepK_not {v : GView} {x : Int} (h : (!decide (x = v.id)) = false ∨ hasP v.id v.peers x = true ∨ hasI v.passive x = true) : stepK v x = v := by
 unfold stepK
 rw [if_neg]
 rintro ⟨h1, h2⟩
 unfold knownB at h2
 rcases h with h | h | h <;> simp_all
theorem nf' {b : Bool} (h : (!b) = false) : b = true := by simpa using h
theorem nt' {b : Bool} (h : (!b) = true) : b = false := by simpa using h
set_option maxHeartbeats 4000000 in
theorem k_helloTake : Known Tryz.prog tau 192 (S3 dView dInt dInts oHello) := by
 refine knownX3 hmix tau_ok (fn := Tryz.f192) (by kernel_rfl) [] (by kernel_rfl) _ _ _ _ fun v x ids hfit => ⟨rfl, _, ctx_tr t_heard (ctx_cons k_viewMay (ctx_cons k_Place (ctx_cons k_Places (ctx_cons k_viewCopy (ctx_cons k_viewPeer (ctx_cons k_viewPassive ctx_nil)))))),
  [(6, invF (Nat × GView) [] [10, 42, 43, 44, 45, 46, 47, 48, 49, 50, 51, 52, 53, 54, 55, 56, 57, 58, 59, 60, 61, 62] [8, 10000027, 10000043, 10050027, 10050043] (fun g => g.1 ≤ ids.length ∧ viewB g.2 = true ∧ g.2.id = v.id ∧ foldK (knownV v x) ids = foldK g.2 (ids.drop g.1)) (fun g => match g with
    | (i, u) => fun st => withS [(42, .int .i64 i)] (withB [(8, (48, [.int .i64 u.id, .row .new (.peers u.peers), .row .new (.ints u.passive)]))] st)) (fun g => ids.length - g.1))], ?_⟩
 have hlen : ids.length * 8 ≤ 140737488355328 := hfit.2.2.1
 clear hfit
 refine V2 ?_; constructor <;> (first | (with_reducible exact TT.i) | (intros; (repeat (apply Wk.mk; intro Kv hN hX hR)); apply Wr.mk))
 all_goals (try simp only [etaView] at *)
 all_goals first
  | (rw [helloV_no (.inl (nf aQ))] <;> rfl)
  | (rw [helloV_no (.inr (.inl (nf aQ)))] <;> rfl)
  | (rw [helloV_no (.inr (.inr (.inl (of_decide_eq_true aQ))))] <;> rfl)
  | (have h := of_decide_eq_true (show decide ((16 : Int) < (ids.length : Nat)) = true by with_reducible assumption)
     rw [helloV_no (.inr (.inr (.inr (.inl (by omega)))))] <;> rfl)
  | (rw [helloV_no (.inr (.inr (.inr (.inr (nf aQ)))))] <;> rfl)
  | (have hB := nt (show (!viewB v) = false by with_reducible assumption)
     have hX := nt (show (!placeB x) = false by with_reducible assumption)
     have hNe := of_decide_eq_false (show decide (x = v.id) = false by with_reducible assumption)
     have hk := known_ok hB hX hNe
     have hb := viewB_iff.1 hB
     first
      | exact Ob.mk (peersB_iff.1 hb.1).2.2.1
      | exact Ob.mk ⟨by omega, by omega⟩
      | (have e := known_full (v := v) (x := x) aQ (nf aQ) (nf aQ)
         refine ⟨(0, v), ⟨Nat.zero_le _, hB, rfl, by rw [e]; rfl⟩, ?_⟩
         refine V1 ?_; constructor <;> (first | (with_reducible exact TT.i) | (intros; (repeat (apply Wk.mk; intro Kv hN hX hR)); apply Wr.mk))
         all_goals rfl)
      | (have e : knownV v x = ⟨v.id, (heardP v.id v.peers x).1, (withoutP v.passive x).1⟩ := by
          first
           | exact known_room (nt aQ)
           | exact known_has (.inl aQ)
           | exact known_has (.inr (nt aQ))
         rw [e] at hk
         refine ⟨(0, ⟨v.id, (heardP v.id v.peers x).1, (withoutP v.passive x).1⟩), ⟨Nat.zero_le _, hk.1, rfl, by rw [e]; rfl⟩, ?_⟩
         clear hk hb hB
         refine V1 ?_; constructor <;> (first | (with_reducible exact TT.i) | (intros; (repeat (apply Wk.mk; intro Kv hN hX hR)); apply Wr.mk))
         all_goals rfl))
  | (rintro ⟨i, u⟩ ⟨hi, hu, hid, hf⟩
     dsimp only at hi hu hid hf
     have hB := nt (show (!viewB v) = false by with_reducible assumption)
     have hX := nt (show (!placeB x) = false by with_reducible assumption)
     have hNe := of_decide_eq_false (show decide (x = v.id) = false by with_reducible assumption)
     have h16 := of_decide_eq_false (show decide ((16 : Int) < (ids.length : Nat)) = false by with_reducible assumption)
     have hA := nt (show (!ids.all placeB) = false by with_reducible assumption)
     have hy := helloV_yes hB hX hNe (show ids.length ≤ 16 by omega) hA
     have hb := viewB_iff.1 hu
     have hs := (peersB_iff.1 hb.1).2.2.1
     have hl := hb.2.2.1
     clear hb
     refine V1 ?_; constructor <;> (first | (with_reducible exact TT.i) | (intros; (repeat (apply Wk.mk; intro Kv hN hX hR)); apply Wr.mk))
     all_goals (try simp only [Int.toNat_natCast, etaView] at *)
     all_goals first
      | exact Ob.mk hs
      | exact Ob.mk ⟨by omega, by omega⟩
      | exact Ob.mk ⟨by omega, of_decide_eq_true aQ⟩
      | (have h := of_decide_eq_true (show decide ((i : Int) < (ids.length : Nat)) = true by with_reducible assumption)
         have hx := List.all_eq_true.1 hA _ (getD_mem (l := ids) (i := i) (d := 0) (by omega))
         have hst := stepK_ok hu hx
         have hn := hf.trans (foldK_next (v := u) (l := ids) (i := i) (by omega))
         first
          | (have e : stepK u (ids.getD i 0) = u := by
              first
               | exact stepK_not (.inl aQ)
               | exact stepK_not (.inr (.inl (nf' aQ)))
               | exact stepK_not (.inr (.inr (nf' aQ)))
               | exact (stepK_known aQ (nt' aQ) (nt' aQ)).trans (known_full aQ (nf aQ) (nf aQ))
             rw [e] at hn
             refine ⟨(i + 1, u), ⟨by show i + 1 ≤ ids.length; omega, hu, hid, hn⟩, by show ids.length - (i + 1) < ids.length - i; omega, ?_⟩
             refine V1 ?_; constructor <;> (first | (with_reducible exact TT.i) | (intros; (repeat (apply Wk.mk; intro Kv hN hX hR)); apply Wr.mk))
             all_goals first
              | exact wrapI (by omega) (by omega)
              | rfl)
          | (have e : stepK u (ids.getD i 0) = ⟨u.id, (heardP u.id u.peers (ids.getD i 0)).1, (withoutP u.passive (ids.getD i 0)).1⟩ := by
              first
               | exact (stepK_known aQ (nt' aQ) (nt' aQ)).trans (known_room (nt aQ))
             rw [e] at hn hst
             refine ⟨(i + 1, ⟨u.id, (heardP u.id u.peers (ids.getD i 0)).1, (withoutP u.passive (ids.getD i 0)).1⟩), ⟨by show i + 1 ≤ ids.length; omega, hst.1, hid, hn⟩, by show ids.length - (i + 1) < ids.length - i; omega, ?_⟩
             refine V1 ?_; constructor <;> (first | (with_reducible exact TT.i) | (intros; (repeat (apply Wk.mk; intro Kv hN hX hR)); apply Wr.mk))
             all_goals first
              | exact wrapI (by omega) (by omega)
              | rfl)
          | (exfalso
             have h1 := nt' (b := hasI u.passive (ids.getD i 0)) aQ
             have h2 := nf' (b := hasI u.passive (ids.getD i 0)) aQ
             rw [h1] at h2
             exact Bool.noConfusion h2)
          | (exfalso
             have h1 := nt' (b := hasP u.id u.peers (ids.getD i 0)) aQ
             have h2 : hasP u.id u.peers (ids.getD i 0) = true := by with_reducible assumption
             rw [h1] at h2
             exact Bool.noConfusion h2))
      | (have h := of_decide_eq_false (show decide ((i : Int) < (ids.length : Nat)) = false by with_reducible assumption)
         have e : foldK (knownV v x) ids = u := by rw [hf, foldK_end (by omega)]
         rw [e] at hy
         rw [hy] <;> rfl))
end Go.Proofs.YtjjpakdlkjaigaaGreat

/- slices.Clone at one type: its walk. -/
namespace Go.Proofs.YtjjpakdlkjaigaaGreat
open Go.RowKit
set_option maxHeartbeats 1000000 in
theorem w_CloneItems : CloneW Tryz.prog 144 64 5 40 := by
 obtain ⟨hk10, het, ti, hti, hsz, hby, _⟩ := tau_ok.rk 64 4 (by kernel_rfl)
 obtain ⟨x0, z, g1, g2, g3, g4, g5, g6⟩ := (tau_ok.ti _ ti hti).info
 have g2 : x0.size = 5 := g2.trans hsz
 have g3 : x0.bytes = 40 := g3.trans hby
 have g5 : z.cells.size = 5 := g5.trans hsz
 clear hk10 het g6
 have t22 : Tryz.prog.underlying 49 = some (.slice 64) := Tryz.underlying49
 have q22 : ∀ (w : World) (a : Option Addr) (n c n' c' : Nat), (binOp .eql 49 (.slice a n c) (.slice none n' c')).run Tryz.prog w = .ok (.bool a.isNone) w := fun w a n c n' c' => Lib.run_eql_slice_nil w _ _ a n c n' c' t22
 refine ⟨fnOk_enters (fn := Tryz.f144) (D := []) (by kernel_rfl) (by kernel_rfl), fun n c w => ?_, fun ad n c news w hl hn hbig hc h1 => ?_⟩
 · go_enter Tryz.func144, Tryz.ntmps144
   go_wp2
   go_ret
   exact ⟨rfl, rfl⟩
 · have A : Aside (∀ j u, news[j]? = some u → w.cell? (ad.add j) = some u) := hc
   clear hc
   go_enter Tryz.func144, Tryz.ntmps144
   go_wp2_with (at_builtin; refine wpList_append_own _ rfl _ _ 49 rfl w.heap.size 64 x0 z 5 40 t22 g1 g4 g2 g3 g5 (by decide) _ _ _ rfl (World.ownsRow_made w #[] 0 (Nat.le_refl _) (Nat.zero_le _) (by simp)) ad n c news rfl ?qc1 ?qc2 ?qc3 ?qc4 ?qc5 ?qc6 ?_)
   case qc1 => exact hl
   case qc2 =>
    intro j u hj
    exact Lib.cell?_alloc_some _ (A.out j u hj)
   case qc3 => exact h1
   case qc4 => rw [Nat.zero_add]; exact hn
   case qc5 => rw [Nat.zero_add]; exact hbig
   case qc6 => simp
   intro v' w1 hown hgrow hnil
   go_wp2
   go_ret
   refine ⟨v', rfl, by simpa using hown, ?_⟩
   exact ((Below.refl _ w).alloc (Nat.le_refl _) _).grown hgrow (by simp) (by intro k hk; simp [Value.ownBlock] at hk; omega)
theorem k_CloneItems : Known Tryz.prog tau 144 (S1 dItems fun l => .ok (.own 0) [.items l]) := clone_known dItems .items (fun _ => rfl) (fun _ => rfl) (kd := 4) (fun _ => rfl) w_CloneItems
end Go.Proofs.YtjjpakdlkjaigaaGreat

/- slices.Clone at one type: its walk. -/
namespace Go.Proofs.YtjjpakdlkjaigaaGreat
open Go.RowKit
set_option maxHeartbeats 1000000 in
theorem w_CloneTolds : CloneW Tryz.prog 145 75 3 24 := by
 obtain ⟨hk10, het, ti, hti, hsz, hby, _⟩ := tau_ok.rk 75 5 (by kernel_rfl)
 obtain ⟨x0, z, g1, g2, g3, g4, g5, g6⟩ := (tau_ok.ti _ ti hti).info
 have g2 : x0.size = 3 := g2.trans hsz
 have g3 : x0.bytes = 24 := g3.trans hby
 have g5 : z.cells.size = 3 := g5.trans hsz
 clear hk10 het g6
 have t22 : Tryz.prog.underlying 50 = some (.slice 75) := Tryz.underlying50
 have q22 : ∀ (w : World) (a : Option Addr) (n c n' c' : Nat), (binOp .eql 50 (.slice a n c) (.slice none n' c')).run Tryz.prog w = .ok (.bool a.isNone) w := fun w a n c n' c' => Lib.run_eql_slice_nil w _ _ a n c n' c' t22
 refine ⟨fnOk_enters (fn := Tryz.f145) (D := []) (by kernel_rfl) (by kernel_rfl), fun n c w => ?_, fun ad n c news w hl hn hbig hc h1 => ?_⟩
 · go_enter Tryz.func145, Tryz.ntmps145
   go_wp2
   go_ret
   exact ⟨rfl, rfl⟩
 · have A : Aside (∀ j u, news[j]? = some u → w.cell? (ad.add j) = some u) := hc
   clear hc
   go_enter Tryz.func145, Tryz.ntmps145
   go_wp2_with (at_builtin; refine wpList_append_own _ rfl _ _ 50 rfl w.heap.size 75 x0 z 3 24 t22 g1 g4 g2 g3 g5 (by decide) _ _ _ rfl (World.ownsRow_made w #[] 0 (Nat.le_refl _) (Nat.zero_le _) (by simp)) ad n c news rfl ?qc1 ?qc2 ?qc3 ?qc4 ?qc5 ?qc6 ?_)
   case qc1 => exact hl
   case qc2 =>
    intro j u hj
    exact Lib.cell?_alloc_some _ (A.out j u hj)
   case qc3 => exact h1
   case qc4 => rw [Nat.zero_add]; exact hn
   case qc5 => rw [Nat.zero_add]; exact hbig
   case qc6 => simp
   intro v' w1 hown hgrow hnil
   go_wp2
   go_ret
   refine ⟨v', rfl, by simpa using hown, ?_⟩
   exact ((Below.refl _ w).alloc (Nat.le_refl _) _).grown hgrow (by simp) (by intro k hk; simp [Value.ownBlock] at hk; omega)
theorem k_CloneTolds : Known Tryz.prog tau 145 (S1 dTolds fun l => .ok (.own 0) [.tolds l]) := clone_known dTolds .tolds (fun _ => rfl) (fun _ => rfl) (kd := 5) (fun _ => rfl) w_CloneTolds
end Go.Proofs.YtjjpakdlkjaigaaGreat

/- Contracts: whose a key is; the next one; nodes' copies. -/
namespace Go.Proofs.YtjjpakdlkjaigaaGreat
open Go.RowKit
set_option maxRecDepth 20000
theorem k_Succ1 : Known Tryz.prog tau 214 (S1 dInts fun l => .ob (0 < l.length) (.int .i64 (l.getD 0 0)) []) := by
 refine known1 hmix tau_ok ctx_nil (fn := Tryz.f214) (by kernel_rfl) [] (by kernel_rfl) _ _ fun l hfit hs => ⟨rfl, [], ?_⟩
 clear hfit
 refine V1 ?_; constructor <;> (first | (with_reducible exact TT.i) | (intros; (repeat (apply Wk.mk; intro Kv hN hX hR)); apply Wr.mk))
 all_goals first
  | exact Ob.mk ⟨by decide, by omega⟩
  | rfl
noncomputable def succV (v : GView) : Int × Int := Classical.choose (seal_ex (if viewB v = true then (if v.peers.length = 0 then (v.id, (0 : Int)) else ((namesP v.peers).getD 0 0, 0)) else (0, 900)))
theorem succV_def (v : GView) : succV v = if viewB v = true then (if v.peers.length = 0 then (v.id, (0 : Int)) else ((namesP v.peers).getD 0 0, 0)) else (0, 900) := Classical.choose_spec (seal_ex _)
noncomputable def oSucc (v : GView) : Out := .ok (.tup [.int .i64 (succV v).1, .int .i64 (succV v).2]) []
theorem k_end : Known Tryz.prog tau 213 (S2 dView (dFn 214) fun v _ => oSucc v) := by
 refine known2 hmix tau_ok (ctx_cons k_viewMay (ctx_cons k_Ids (ctx_cons k_Succ1 ctx_nil))) (fn := Tryz.f213) (by kernel_rfl) [] (by kernel_rfl) _ _ _ fun v _ hfit => ⟨rfl, [], ?_⟩
 clear hfit
 refine V1 ?_; constructor <;> (first | (with_reducible exact TT.i) | (intros; (repeat (apply Wk.mk; intro Kv hN hX hR)); apply Wr.mk))
 all_goals (try simp only [etaView] at *)
 all_goals first
  | (have h : viewB v = false := nf aQ
     rw [succV_def, if_neg (by rw [h]; simp)]
     done)
  | (have h : viewB v = true := nt aQ
     have h2 := of_decide_eq_true (show decide ((v.peers.length : Int) = 0) = true by with_reducible assumption)
     rw [succV_def, if_pos h, if_pos (by omega)]
     done)
  | (have h : viewB v = true := nt aQ
     have h2 := of_decide_eq_false (show decide ((v.peers.length : Int) = 0) = false by with_reducible assumption)
     first
      | (refine Ob.mk ?_
         rw [namesP_len]
         omega)
      | (rw [succV_def, if_pos h, if_neg (by omega)]
         done))
theorem k_Succ : Known Tryz.prog tau 189 (S1 dView oSucc) := by
 refine known1 hmix tau_ok (ctx_cons k_end ctx_nil) (fn := Tryz.f189) (by kernel_rfl) [] (by kernel_rfl) _ _ fun v hfit => ⟨rfl, [], ?_⟩
 clear hfit
 refine V1 ?_; constructor <;> (first | (with_reducible exact TT.i) | (intros; (repeat (apply Wk.mk; intro Kv hN hX hR)); apply Wr.mk))
 all_goals (try simp only [etaView] at *)
 all_goals first
  | rfl
noncomputable def ownV (v : GView) (k : Int) : Int × Int := Classical.choose (seal_ex (if viewB v = true ∧ placeB k = true then ((ownP (namesP v.peers ++ [v.id]) k).1, (0 : Int)) else (0, 900)))
theorem ownV_def (v : GView) (k : Int) : ownV v k = if viewB v = true ∧ placeB k = true then ((ownP (namesP v.peers ++ [v.id]) k).1, (0 : Int)) else (0, 900) := Classical.choose_spec (seal_ex _)
theorem ownV_no {v : GView} {k : Int} (h : viewB v = false ∨ placeB k = false) : ownV v k = (0, 900) := by
 rw [ownV_def, if_neg]
 rintro ⟨h1, h2⟩
 rcases h with h | h <;> simp_all
noncomputable def oOwnV (v : GView) (k : Int) : Out := .ok (.tup [.int .i64 (ownV v k).1, .int .i64 (ownV v k).2]) []
theorem k_viewOwner : Known Tryz.prog tau 161 (S2 dView dInt oOwnV) := by
 refine known2 hmix tau_ok (ctx_cons k_viewMay (ctx_cons k_Place (ctx_cons k_Ids (ctx_cons k_rowOwner ctx_nil)))) (fn := Tryz.f161) (by kernel_rfl) [(3, [(0, 0), (1, 0), (2, 2), (3, 4), (4, 9), (5, 0), (6, 48), (7, 64), (8, 128), (9, 128), (10, 511), (11, 2047)])] (by kernel_rfl) _ _ _ fun v k hfit => ⟨rfl, [], ?_⟩
 have hp : v.peers.length * 16 ≤ 140737488355328 := hfit.1.2.1
 clear hfit
 refine V3 ?_; constructor <;> (first | (with_reducible exact TT.i) | (intros; (repeat (apply Wk.mk; intro Kv hN hX hR)); apply Wr.mk))
 all_goals (try simp only [etaView] at *)
 all_goals first
  | (rw [ownV_no (.inl (nf (show (!viewB v) = true by with_reducible assumption)))]; done)
  | (rw [ownV_no (.inr (nf (show (!placeB k) = true by with_reducible assumption)))]; done)
  | (have h : viewB v = true := nt aQ
     have h2 : placeB k = true := nt aQ
     have h3 := (viewB_iff.1 h).2.2.1
     first
      | (refine Ob.mk ?_
         simp only [Rw.len, Rw.bts, Rw.kd, kdBytes, namesP_len, List.length_cons, List.length_nil]
         omega)
      | (rw [ownV_def, if_pos ⟨h, h2⟩]; done))
theorem k_nodeUp : Known Tryz.prog tau 146 (S1 dNode fun x => okB (x.up && nodeB x)) := by
 refine known1 hmix tau_ok (ctx_cons k_nodeMay ctx_nil) (fn := Tryz.f146) (by kernel_rfl) [] (by kernel_rfl) _ _ fun x hfit => ⟨rfl, [], ?_⟩
 clear hfit
 refine V1 ?_; constructor <;> (first | (with_reducible exact TT.i) | (intros; (repeat (apply Wk.mk; intro Kv hN hX hR)); apply Wr.mk))
 all_goals (try simp only [etaNode] at *)
 all_goals first
  | (have h : x.up = true := by with_reducible assumption
     rw [h]
     rfl)
  | (have h : x.up = false := by with_reducible assumption
     rw [h]
     rfl)
def nOwn4 (n : GNode) : List SV := [.bool n.up, .int .i64 n.view.id, .own 0, .own 1, .own 2, .own 3]
def nRows (n : GNode) : List Rw := [.peers n.view.peers, .ints n.view.passive, .items n.items, .tolds n.log]
theorem k_nodeCopy : Known Tryz.prog tau 89 (S1 dNode fun x => .ok (.agg (nOwn4 x)) (nRows x)) := by
 refine known1 hmix tau_ok (ctx_cons k_viewCopy (ctx_cons k_CloneItems (ctx_cons k_CloneTolds ctx_nil))) (fn := Tryz.f89) (by kernel_rfl) [(1, [(0, 0), (1, 1), (2, 2), (3, 0), (4, 8), (5, 20), (6, 0), (7, 64), (8, 160), (9, 223), (10, 991), (11, 1791), (12, 3839), (13, 8191), (14, 16383)])] (by kernel_rfl) _ _ fun x hfit => ⟨rfl, [], ?_⟩
 clear hfit
 refine V3 ?_; constructor <;> (first | (with_reducible exact TT.i) | (intros; (repeat (apply Wk.mk; intro Kv hN hX hR)); apply Wr.mk))
 all_goals first
  | rfl
end Go.Proofs.YtjjpakdlkjaigaaGreat

/- Contracts: sharing; a node's turn. -/
namespace Go.Proofs.YtjjpakdlkjaigaaGreat
open Go.RowKit
set_option maxRecDepth 20000
def iZ : GItem := ⟨0, ⟨0, 0⟩, 0, false⟩
noncomputable def toV (v : GView) (k : Int) : Int := if (ownV v k).1 = v.id then (succV v).1 else (ownV v k).1
noncomputable def shareL (v : GView) : List GItem → List GMsg
 | [] => []
 | i :: l => (if toV v i.key = v.id then [] else [(⟨1, v.id, toV v i.key, [], 0, i, false⟩ : GMsg)]) ++ shareL v l
theorem shareL_app (v : GView) (a b : List GItem) : shareL v (a ++ b) = shareL v a ++ shareL v b := by
 induction a with
 | nil => rfl
 | cons i a ih => simp only [List.cons_append, shareL, ih, List.append_assoc]
theorem shareL_succ {v : GView} {l : List GItem} {i : Nat} (h : i < l.length) : shareL v (l.take (i + 1)) = shareL v (l.take i) ++ (if toV v (l.getD i default).key = v.id then [] else [(⟨1, v.id, toV v (l.getD i default).key, [], 0, l.getD i default, false⟩ : GMsg)]) := by
 rw [List.take_succ_eq_append_getElem h, shareL_app, ← etaIt h]
 simp only [shareL, List.append_nil]
theorem shareL_len (v : GView) (l : List GItem) : (shareL v l).length ≤ l.length := by
 induction l with
 | nil => exact Nat.le_refl _
 | cons i l ih => simp only [shareL, List.length_append, List.length_cons]; split <;> simp <;> omega
noncomputable def shareN (x : GNode) : List GMsg × Int := Classical.choose (seal_ex (if (x.up && nodeB x) = true then (shareL x.view x.items, (0 : Int)) else ([], 1800)))
theorem shareN_def (x : GNode) : shareN x = if (x.up && nodeB x) = true then (shareL x.view x.items, (0 : Int)) else ([], 1800) := Classical.choose_spec (seal_ex _)
noncomputable def oShare (x : GNode) : Out := .ok (.tup [.own 0, .int .i64 (shareN x).2]) [.msgs (shareN x).1]
set_option maxHeartbeats 2000000 in
theorem k_shareOf : Known Tryz.prog tau 148 (S1 dNode oShare) := by
 refine known1 hmix tau_ok (ctx_cons k_nodeUp (ctx_cons k_Succ (ctx_cons k_viewOwner ctx_nil))) (fn := Tryz.f148) (by kernel_rfl) [] (by kernel_rfl) _ _ fun x hfit => ⟨rfl,
  [(6, invA Nat [(4, 54, 7)] (4 :: 8 :: 9 :: 10 :: 23 :: 24 :: 25 :: 26 :: 27 :: 28 :: 29 :: 30 :: 31 :: 32 :: 33 :: 34 :: 35 :: 36 :: 37 :: 38 :: 39 :: 40 :: 41 :: 42 :: 43 :: 44 :: 45 :: 46 :: 47 :: 48 :: 49 :: 50 :: 51 :: 52 :: 53 :: 54 :: 55 :: []) [] (fun i => i ≤ x.items.length) (fun i => fun st => withS [(23, .int .i64 i), (4, .own 54)] (withR [(54, .own (.msgs (shareL x.view (x.items.take i))))] st)) (fun i => x.items.length - i))], ?_⟩
 have hp : x.items.length * 40 ≤ 140737488355328 := hfit.1.2.2.2.2.1
 clear hfit
 refine V2 ?_; constructor <;> (first | (with_reducible exact TT.i) | (intros; (repeat (apply Wk.mk; intro Kv hN hX hR)); apply Wr.mk))
 all_goals first
  | (have h : (x.up && nodeB x) = false := nf aQ
     rw [shareN_def, if_neg (by rw [h]; simp)] <;> rfl)
  | (refine ⟨0, Nat.zero_le _, ?_⟩
     refine V1 ?_; constructor <;> (first | (with_reducible exact TT.i) | (intros; (repeat (apply Wk.mk; intro Kv hN hX hR)); apply Wr.mk))
     all_goals rfl)
  | (with_reducible intro i hi
     have hi : i ≤ x.items.length := hi
     have hB : (x.up && nodeB x) = true := nt aQ
     have hst := (storeB_iff.1 (by
      have := (Bool.and_eq_true _ _ ▸ hB).2
      unfold nodeB at this
      simp only [Bool.and_eq_true] at this
      exact this.2.1 : storeB x.items = true)).1
     have g2 := shareL_len x.view (x.items.take i)
     rw [List.length_take] at g2
     refine V1 ?_; constructor <;> (first | (with_reducible exact TT.i) | (intros; (repeat (apply Wk.mk; intro Kv hN hX hR)); apply Wr.mk))
     all_goals (try simp only [Int.toNat_natCast, etaView, etaItem] at *)
     all_goals first
      | exact Ob.mk ⟨by omega, of_decide_eq_true aQ⟩
      | (refine Ob.mk ?_
         simp only [Rw.len, Rw.bts, Rw.kd, kdBytes, List.length_cons, List.length_nil]
         omega)
      | (have h := of_decide_eq_true (show decide ((i : Int) < (x.items.length : Nat)) = true by with_reducible assumption)
         have e1 := shareL_succ (v := x.view) (l := x.items) (i := i) (by omega)
         have go : ∀ ys, shareL x.view (x.items.take (i + 1)) = shareL x.view (x.items.take i) ++ ys → shareL x.view (x.items.take i) ++ ys = shareL x.view (x.items.take (i + 1)) := fun ys h => h.symm
         first
          | (have h1 := of_decide_eq_true (show decide ((ownV x.view (x.items.getD i default).key).1 = x.view.id) = true by with_reducible assumption)
             have ht : toV x.view (x.items.getD i default).key = (succV x.view).1 := by unfold toV; rw [if_pos h1]
             rw [ht] at e1
             first
              | (have h2 := of_decide_eq_false (nf (show (!decide ((succV x.view).1 = x.view.id)) = true by with_reducible assumption))
                 rw [if_neg h2] at e1
                 refine ⟨i + 1, by omega, by omega, ?_⟩
                 refine V1 ?_; constructor <;> (first | (with_reducible exact TT.i) | (intros; (repeat (apply Wk.mk; intro Kv hN hX hR)); apply Wr.mk))
                 all_goals first
                  | exact wrapI (by omega) (by omega)
                  | exact congrArg Rw.msgs e1.symm
                  | rfl)
              | (have h2 := of_decide_eq_true (nt (show (!decide ((succV x.view).1 = x.view.id)) = false by with_reducible assumption))
                 rw [if_pos h2, List.append_nil] at e1
                 refine ⟨i + 1, by omega, by omega, ?_⟩
                 refine V1 ?_; constructor <;> (first | (with_reducible exact TT.i) | (intros; (repeat (apply Wk.mk; intro Kv hN hX hR)); apply Wr.mk))
                 all_goals first
                  | exact wrapI (by omega) (by omega)
                  | exact congrArg Rw.msgs e1.symm
                  | rfl))
          | (have h1 := of_decide_eq_false (show decide ((ownV x.view (x.items.getD i default).key).1 = x.view.id) = false by with_reducible assumption)
             have ht : toV x.view (x.items.getD i default).key = (ownV x.view (x.items.getD i default).key).1 := by unfold toV; rw [if_neg h1]
             rw [ht, if_neg h1] at e1
             first
              | exact absurd (of_decide_eq_true (nt (show (!decide ((ownV x.view (x.items.getD i default).key).1 = x.view.id)) = false by with_reducible assumption))) h1
              | (refine ⟨i + 1, by omega, by omega, ?_⟩
                 refine V1 ?_; constructor <;> (first | (with_reducible exact TT.i) | (intros; (repeat (apply Wk.mk; intro Kv hN hX hR)); apply Wr.mk))
                 all_goals first
                  | exact wrapI (by omega) (by omega)
                  | exact congrArg Rw.msgs e1.symm
                  | rfl)))
      | (have h := of_decide_eq_false (show decide ((i : Int) < (x.items.length : Nat)) = false by with_reducible assumption)
         rw [shareN_def, if_pos hB]
         first
          | done
          | rfl
          | rw [List.take_of_length_le (by omega)]))
def helloL (v : GView) (ts : List Int) : List GMsg := ts.map fun t => ⟨0, v.id, t, namesP v.peers, 0, ⟨0, ⟨0, 0⟩, 0, false⟩, false⟩
theorem helloL_succ {v : GView} {l : List Int} {i : Nat} (h : i < l.length) : helloL v (l.take (i + 1)) = helloL v (l.take i) ++ [⟨0, v.id, l.getD i 0, namesP v.peers, 0, ⟨0, ⟨0, 0⟩, 0, false⟩, false⟩] := by
 unfold helloL
 rw [List.take_succ_eq_append_getElem h, List.map_append]
 simp [List.getD_eq_getElem?_getD, h]
theorem helloL_len (v : GView) (l : List Int) : (helloL v l).length = l.length := by simp [helloL]
noncomputable def tickN (x : GNode) : GNode × List GMsg × Int := Classical.choose (seal_ex (if (x.up && nodeB x) = true then ((⟨x.up, (tickV x.view).1, x.items, x.log⟩ : GNode), helloL (tickV x.view).1 (tickV x.view).2.1 ++ (shareN ⟨x.up, (tickV x.view).1, x.items, x.log⟩).1, (0 : Int)) else (nodeZ, [], 1900)))
theorem tickN_def (x : GNode) : tickN x = if (x.up && nodeB x) = true then ((⟨x.up, (tickV x.view).1, x.items, x.log⟩ : GNode), helloL (tickV x.view).1 (tickV x.view).2.1 ++ (shareN ⟨x.up, (tickV x.view).1, x.items, x.log⟩).1, (0 : Int)) else (nodeZ, [], 1900) := Classical.choose_spec (seal_ex _)
theorem shareN_len (x : GNode) : (shareN x).1.length ≤ x.items.length := by
 rw [shareN_def]
 split
 · exact shareL_len _ _
 · simp
theorem up_view {x : GNode} (h : (x.up && nodeB x) = true) : x.up = true ∧ nodeB x = true ∧ viewB x.view = true ∧ storeB x.items = true := by
 have h1 := Bool.and_eq_true _ _ ▸ h
 refine ⟨h1.1, h1.2, ?_⟩
 have := h1.2
 unfold nodeB at this
 simp only [Bool.and_eq_true] at this
 exact ⟨this.1, this.2.1⟩
noncomputable def oTick (x : GNode) : Out := .ok (.tup [.agg [.bool (tickN x).1.up, .int .i64 (tickN x).1.view.id, .own 0, .row .new (.ints (tickN x).1.view.passive), .own 1, .own 2], .own 3, .int .i64 (tickN x).2.2]) [.peers (tickN x).1.view.peers, .items (tickN x).1.items, .tolds (tickN x).1.log, .msgs (tickN x).2.1]
set_option maxHeartbeats 4000000 in
theorem k_tickStep : Known Tryz.prog tau 94 (S1 dNode oTick) := by
 refine known1 hmix tau_ok (ctx_cons k_nodeUp (ctx_cons k_nodeCopy (ctx_cons k_ageTick (ctx_cons k_Ids (ctx_cons k_shareOf ctx_nil))))) (fn := Tryz.f94) (by kernel_rfl) [(10, [(0, 0), (1, 0), (2, 2), (3, 0), (4, 0), (5, 28), (6, 32), (7, 81), (8, 255)]), (13, [(0, 0), (1, 0), (2, 0), (3, 6), (4, 9), (5, 31), (6, 63)])] (by kernel_rfl) _ _ fun x hfit => ⟨rfl,
  [(8, invA Nat [(9, 42, 7)] [9, 11, 31, 32, 33, 34, 35, 36, 37, 38, 39, 40, 41, 42, 43] [] (fun i => i ≤ (tickV x.view).2.1.length) (fun i => fun st => withS [(31, .int .i64 i), (9, .own 42)] (withR [(42, .own (.msgs (helloL (tickV x.view).1 ((tickV x.view).2.1.take i))))] st)) (fun i => (tickV x.view).2.1.length - i))], ?_⟩
 have hp : x.items.length * 40 ≤ 140737488355328 := hfit.1.2.2.2.2.1
 clear hfit
 refine V4 ?_; constructor <;> (first | (with_reducible exact TT.i) | (intros; (repeat (apply Wk.mk; intro Kv hN hX hR)); apply Wr.mk))
 all_goals first
  | (have h : (x.up && nodeB x) = false := nf aQ
     rw [tickN_def, if_neg (by rw [h]; simp)] <;> rfl)
  | (refine ⟨0, Nat.zero_le _, ?_⟩
     refine V1 ?_; constructor <;> (first | (with_reducible exact TT.i) | (intros; (repeat (apply Wk.mk; intro Kv hN hX hR)); apply Wr.mk))
     all_goals rfl)
  | (with_reducible intro i hi
     have hi : i ≤ (tickV x.view).2.1.length := hi
     have hB : (x.up && nodeB x) = true := nt aQ
     obtain ⟨b1, b2, b3, b4⟩ := up_view hB
     have t := tick_ok b3
     have tl := congrArg List.length t.2.2.2.2.1
     rw [List.length_append, namesP_len, ← t.2.2.1] at tl
     have t16 := (viewB_iff.1 t.1).2.2.1
     have s16 := (storeB_iff.1 b4).1
     have g3 := shareN_len ⟨x.up, (tickV x.view).1, x.items, x.log⟩
     have htn := (tickN_def x).trans (if_pos hB)
     refine V3 ?_; constructor <;> (first | (with_reducible exact TT.i) | (intros; (repeat (apply Wk.mk; intro Kv hN hX hR)); apply Wr.mk))
     all_goals (try simp only [Int.toNat_natCast, etaView, etaNode] at *)
     all_goals first
      | exact Ob.mk ⟨by omega, of_decide_eq_true aQ⟩
      | (refine Ob.mk ?_
         simp only [Rw.len, Rw.bts, Rw.kd, kdBytes, List.length_cons, List.length_nil, helloL_len, List.length_take]
         omega)
      | (have h := of_decide_eq_true (show decide ((i : Int) < ((tickV x.view).2.1.length : Nat)) = true by with_reducible assumption)
         have e1 := helloL_succ (v := (tickV x.view).1) (l := (tickV x.view).2.1) (i := i) (by omega)
         refine ⟨i + 1, by omega, by omega, ?_⟩
         refine V1 ?_; constructor <;> (first | (with_reducible exact TT.i) | (intros; (repeat (apply Wk.mk; intro Kv hN hX hR)); apply Wr.mk))
         all_goals first
          | exact wrapI (by omega) (by omega)
          | exact congrArg Rw.msgs e1.symm
          | rfl)
      | (have h := of_decide_eq_false (show decide ((i : Int) < ((tickV x.view).2.1.length : Nat)) = false by with_reducible assumption)
         rw [htn]
         first
          | done
          | rfl
          | rw [List.take_of_length_le (by omega)]))
end Go.Proofs.YtjjpakdlkjaigaaGreat
