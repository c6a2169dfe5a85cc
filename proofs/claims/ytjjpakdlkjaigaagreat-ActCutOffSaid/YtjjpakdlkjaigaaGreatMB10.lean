/- A part of the proof of a law: ClNodes, ClCuts, F23c, F23d, F14c, SamePeers, SameItems, SameTolds, G16a, SameCuts, F23e, F23f, P19, P11b, P19b, P21. -/
import Derived.Test.YtjjpakdlkjaigaaGreatMB9
import Derived.Shelf.RegionOpenPlain
import Derived.Lib.Walk
import Derived.Lib.SliceRun
import Derived.Laws.AppendOwn
import Derived.Conc.AppendEvents2
set_option linter.all false
set_option linter.unusedVariables false
set_option linter.unusedSimpArgs false
set_option linter.unusedSectionVars false
/- slices.Clone at one type: its walk. -/
namespace Go.Proofs.YtjjpakdlkjaigaaGreat
open Go.RowKit
set_option maxHeartbeats 1000000 in
theorem w_CloneNodes : CloneW Tryz.prog 86 52 6 112 := by
 obtain ⟨hk10, het, ti, hti, hsz, hby, _⟩ := tau_ok.rk 52 8 (by kernel_rfl)
 obtain ⟨x0, z, g1, g2, g3, g4, g5, g6⟩ := (tau_ok.ti _ ti hti).info
 have g2 : x0.size = 6 := g2.trans hsz
 have g3 : x0.bytes = 112 := g3.trans hby
 have g5 : z.cells.size = 6 := g5.trans hsz
 clear hk10 het g6
 have t22 : Tryz.prog.underlying 22 = some (.slice 52) := Tryz.underlying22
 have q22 : ∀ (w : World) (a : Option Addr) (n c n' c' : Nat), (binOp .eql 22 (.slice a n c) (.slice none n' c')).run Tryz.prog w = .ok (.bool a.isNone) w := fun w a n c n' c' => Lib.run_eql_slice_nil w _ _ a n c n' c' t22
 refine ⟨fnOk_enters (fn := Tryz.f86) (D := []) (by kernel_rfl) (by kernel_rfl), fun n c w => ?_, fun ad n c news w hl hn hbig hc h1 => ?_⟩
 · go_enter Tryz.func86, Tryz.ntmps86
   go_wp2
   go_ret
   exact ⟨rfl, rfl⟩
 · have A : Aside (∀ j u, news[j]? = some u → w.cell? (ad.add j) = some u) := hc
   clear hc
   go_enter Tryz.func86, Tryz.ntmps86
   go_wp2_with (at_builtin; refine wpList_append_own _ rfl _ _ 22 rfl w.heap.size 52 x0 z 6 112 t22 g1 g4 g2 g3 g5 (by decide) _ _ _ rfl (World.ownsRow_made w #[] 0 (Nat.le_refl _) (Nat.zero_le _) (by simp)) ad n c news rfl ?qc1 ?qc2 ?qc3 ?qc4 ?qc5 ?qc6 ?_)
   case qc1 => exact hl
   case qc2 =>
    intro j u hj
    exact Lib.cell?_alloc_some _ (A.out j u hj)
   case qc3 => exact h1
   case qc4 => rw [Nat.zero_add]; exact hn
   case qc5 => rw [Nat.zero_add]; exact hbig
   case qc6 => simp
   intro v' w1 hown hgrow hnil
   go_wp2
   go_ret
   refine ⟨v', rfl, by simpa using hown, ?_⟩
   exact ((Below.refl _ w).alloc (Nat.le_refl _) _).grown hgrow (by simp) (by intro k hk; simp [Value.ownBlock] at hk; omega)
theorem t_CloneNodes (q : Nat) : TrKnown Tryz.prog tau 86 (cloneT 8 q) := clone_tr q w_CloneNodes
end Go.Proofs.YtjjpakdlkjaigaaGreat

/- slices.Clone at one type: its walk. -/
namespace Go.Proofs.YtjjpakdlkjaigaaGreat
open Go.RowKit
set_option maxHeartbeats 1000000 in
theorem w_CloneCuts : CloneW Tryz.prog 87 101 2 16 := by
 obtain ⟨hk10, het, ti, hti, hsz, hby, _⟩ := tau_ok.rk 101 6 (by kernel_rfl)
 obtain ⟨x0, z, g1, g2, g3, g4, g5, g6⟩ := (tau_ok.ti _ ti hti).info
 have g2 : x0.size = 2 := g2.trans hsz
 have g3 : x0.bytes = 16 := g3.trans hby
 have g5 : z.cells.size = 2 := g5.trans hsz
 clear hk10 het g6
 have t22 : Tryz.prog.underlying 23 = some (.slice 101) := Tryz.underlying23
 have q22 : ∀ (w : World) (a : Option Addr) (n c n' c' : Nat), (binOp .eql 23 (.slice a n c) (.slice none n' c')).run Tryz.prog w = .ok (.bool a.isNone) w := fun w a n c n' c' => Lib.run_eql_slice_nil w _ _ a n c n' c' t22
 refine ⟨fnOk_enters (fn := Tryz.f87) (D := []) (by kernel_rfl) (by kernel_rfl), fun n c w => ?_, fun ad n c news w hl hn hbig hc h1 => ?_⟩
 · go_enter Tryz.func87, Tryz.ntmps87
   go_wp2
   go_ret
   exact ⟨rfl, rfl⟩
 · have A : Aside (∀ j u, news[j]? = some u → w.cell? (ad.add j) = some u) := hc
   clear hc
   go_enter Tryz.func87, Tryz.ntmps87
   go_wp2_with (at_builtin; refine wpList_append_own _ rfl _ _ 23 rfl w.heap.size 101 x0 z 2 16 t22 g1 g4 g2 g3 g5 (by decide) _ _ _ rfl (World.ownsRow_made w #[] 0 (Nat.le_refl _) (Nat.zero_le _) (by simp)) ad n c news rfl ?qc1 ?qc2 ?qc3 ?qc4 ?qc5 ?qc6 ?_)
   case qc1 => exact hl
   case qc2 =>
    intro j u hj
    exact Lib.cell?_alloc_some _ (A.out j u hj)
   case qc3 => exact h1
   case qc4 => rw [Nat.zero_add]; exact hn
   case qc5 => rw [Nat.zero_add]; exact hbig
   case qc6 => simp
   intro v' w1 hown hgrow hnil
   go_wp2
   go_ret
   refine ⟨v', rfl, by simpa using hown, ?_⟩
   exact ((Below.refl _ w).alloc (Nat.le_refl _) _).grown hgrow (by simp) (by intro k hk; simp [Value.ownBlock] at hk; omega)
theorem k_CloneCuts : Known Tryz.prog tau 87 (S1 dCuts fun l => .ok (.own 0) [.cuts l]) := clone_known dCuts .cuts (fun _ => rfl) (fun _ => rfl) (kd := 6) (fun _ => rfl) w_CloneCuts
end Go.Proofs.YtjjpakdlkjaigaaGreat

/- Contracts: worlds: who is named; may they be; their copies. -/
namespace Go.Proofs.YtjjpakdlkjaigaaGreat
open Go.RowKit
set_option maxRecDepth 20000
def namedN (n : GNode) : List Int := namesP n.view.peers ++ n.view.passive
def namedC (c : GCut) : List Int := [c.a, c.b]
def namedM (m : GMsg) : List Int := [m.src, m.dst] ++ m.ids
def namedW (w : GWorld) : List Int := (w.nodes.flatMap namedN ++ w.cuts.flatMap namedC) ++ w.packets.flatMap namedM
theorem fm_succ {α : Type} [Inhabited α] {f : α → List Int} {l : List α} {i : Nat} (h : i < l.length) : (l.take (i + 1)).flatMap f = (l.take i).flatMap f ++ f (l.getD i default) := by
 rw [List.take_succ_eq_append_getElem h, List.flatMap_append]
 simp [List.getD_eq_getElem?_getD, h]
theorem flat_max {α : Type} {f : α → List Int} {c : Nat} : ∀ {l : List α}, (∀ x ∈ l, (f x).length ≤ c) → (l.flatMap f).length ≤ c * l.length
 | [], _ => by simp
 | x :: l, h => by
   have h1 := h x List.mem_cons_self
   have h2 := flat_max fun y hy => h y (List.mem_cons_of_mem x hy)
   rw [List.flatMap_cons, List.length_append, List.length_cons, Nat.mul_add]
   omega
theorem flat_take {α : Type} {f : α → List Int} {c : Nat} {l : List α} (h : ∀ x ∈ l, (f x).length ≤ c) (i : Nat) : ((l.take i).flatMap f).length ≤ c * l.length := by
 refine Nat.le_trans (flat_max fun x hx => h x (List.mem_of_mem_take hx)) (Nat.mul_le_mul_left _ ?_)
 rw [List.length_take]
 omega
theorem nodeB_names {n : GNode} (h : nodeB n = true) : n.view.peers.length ≤ 16 ∧ n.view.passive.length ≤ 16 := by
 unfold nodeB at h
 simp only [Bool.and_eq_true] at h
 have := (viewB_iff.1 h.1).2.2.1
 omega
theorem mayB_ids {m : GMsg} (h : mayB m = true) : m.ids.length ≤ 16 := by
 unfold mayB bodyB noneB at h
 simp only [Bool.and_eq_true] at h
 have h := h.2.2.2
 split at h
 · simp only [Bool.and_eq_true, decide_eq_true_eq] at h; omega
 · split at h
   · simp only [Bool.and_eq_true, decide_eq_true_eq] at h; omega
   · split at h
     · simp only [Bool.and_eq_true, decide_eq_true_eq] at h; omega
     · split at h
       · simp only [Bool.and_eq_true, decide_eq_true_eq] at h; omega
       · simp at h
theorem queueB_iff2 {l : List GMsg} : queueB l = true ↔ l.length ≤ 512 ∧ ∀ m ∈ l, mayB m = true := by
 simp only [queueB, Bool.and_eq_true, decide_eq_true_eq, List.all_eq_true]
 exact ⟨fun h => ⟨by omega, h.2⟩, fun h => ⟨by omega, h.2⟩⟩
def shortW (w : GWorld) : Prop := nodesB w.nodes = true ∧ cutsB w.cuts = true ∧ queueB w.packets = true
set_option maxHeartbeats 8000000 in
theorem k_named : Known Tryz.prog tau 83 (S1 dPWorld fun w => .ob (shortW w) (.own 0) [.ints (namedW w)]) := by
 refine known1 hmix tau_ok (ctx_cons k_Ids ctx_nil) (fn := Tryz.f83) (by kernel_rfl) [] (by kernel_rfl) _ _ fun w hfit hs => ⟨rfl,
  [(3, invA Nat [(3, 26, 0)] [3, 4, 14, 15, 16, 17, 18, 19, 20, 21, 22, 23, 24, 25, 26, 27, 28, 29, 30, 31, 32, 33, 34, 35, 36, 37, 38] [] (fun i => i ≤ w.nodes.length) (fun i => fun st => withS [(14, .int .i64 i), (3, .own 26)] (withR [(26, .own (.ints ((w.nodes.take i).flatMap namedN)))] st)) (fun i => w.nodes.length - i)),
   (9, invX Nat [3, 6, 44, 45, 46, 47, 48, 49, 50, 51, 52, 53, 54, 55] [26] (fun i => i ≤ w.cuts.length) (fun i => fun st => withS [(44, .int .i64 i), (3, .own 26)] (withR [(26, .own (.ints (w.nodes.flatMap namedN ++ (w.cuts.take i).flatMap namedC)))] st)) (fun i => w.cuts.length - i)),
   (14, invX Nat [3, 8, 61, 62, 63, 64, 65, 66, 67, 68, 69, 70, 71, 72, 73, 74, 75, 76] [26] (fun i => i ≤ w.packets.length) (fun i => fun st => withS [(61, .int .i64 i), (3, .own 26)] (withR [(26, .own (.ints ((w.nodes.flatMap namedN ++ w.cuts.flatMap namedC) ++ (w.packets.take i).flatMap namedM)))] st)) (fun i => w.packets.length - i))], ?_⟩
 clear hfit
 obtain ⟨s1, s2, s3⟩ := hs
 obtain ⟨n1, n2, _, n4⟩ := nodesB_iff.1 s1
 have c1 := (cutsB_iff.1 s2).1
 obtain ⟨q1, q2⟩ := queueB_iff2.1 s3
 have bN : ∀ x ∈ w.nodes, (namedN x).length ≤ 32 := fun x hx => by
  have := nodeB_names (n4 x hx)
  unfold namedN
  rw [List.length_append, namesP_len]
  omega
 have bC : ∀ x ∈ w.cuts, (namedC x).length ≤ 2 := fun x _ => Nat.le_refl _
 have bM : ∀ x ∈ w.packets, (namedM x).length ≤ 18 := fun x hx => by
  have := mayB_ids (q2 x hx)
  show ([x.src, x.dst] ++ x.ids).length ≤ 18
  rw [List.length_append]
  simp
  omega
 have mN := flat_take bN
 have mC := flat_take bC
 have mM := flat_take bM
 have mN2 := flat_max bN
 have mC2 := flat_max bC
 refine V2 ?_; constructor <;> (first | (with_reducible exact TT.i) | (intros; (repeat (apply Wk.mk; intro Kv hN hX hR)); apply Wr.mk))
 all_goals first
  | (refine ⟨0, Nat.zero_le _, ?_⟩
     refine V1 ?_; constructor <;> (first | (with_reducible exact TT.i) | (intros; (repeat (apply Wk.mk; intro Kv hN hX hR)); apply Wr.mk))
     all_goals rfl)
  | (with_reducible intro i hi
     have hi : i ≤ w.nodes.length := hi
     have m1 := mN i
     refine V2 ?_; constructor <;> (first | (with_reducible exact TT.i) | (intros; (repeat (apply Wk.mk; intro Kv hN hX hR)); apply Wr.mk))
     all_goals (try simp only [Int.toNat_natCast] at *)
     all_goals first
      | exact Ob.mk ⟨by omega, of_decide_eq_true aQ⟩
      | (have h := of_decide_eq_true (show decide ((i : Int) < (w.nodes.length : Nat)) = true by with_reducible assumption)
         have hx := nodeB_names (n4 _ (getD_mem (d := default) (show i < w.nodes.length by omega)))
         first
          | (refine Ob.mk ?_
             simp only [Rw.len, Rw.bts, Rw.kd, kdBytes, List.length_append, namesP_len]
             omega)
          | (have e1 := fm_succ (f := namedN) (show i < w.nodes.length by omega)
             refine ⟨i + 1, by omega, by omega, ?_⟩
             refine V1 ?_; constructor <;> (first | (with_reducible exact TT.i) | (intros; (repeat (apply Wk.mk; intro Kv hN hX hR)); apply Wr.mk))
             all_goals first
              | exact wrapI (by omega) (by omega)
              | (refine congrArg Rw.ints (Eq.trans ?_ e1.symm)
                 unfold namedN
                 rw [List.append_assoc])
              | rfl))
      | (have h := of_decide_eq_false (show decide ((i : Int) < (w.nodes.length : Nat)) = false by with_reducible assumption)
         have hT : w.nodes.take i = w.nodes := List.take_of_length_le (by omega)
         rw [hT]
         first
          | (refine ⟨0, Nat.zero_le _, ?_⟩
             refine V1 ?_; constructor <;> (first | (with_reducible exact TT.i) | (intros; (repeat (apply Wk.mk; intro Kv hN hX hR)); apply Wr.mk))
             all_goals first
              | (refine congrArg Rw.ints ?_
                 simp
                 done)
              | rfl)
          | (with_reducible intro j hj
             have hj : j ≤ w.cuts.length := hj
             have m2 := mC j
             refine V2 ?_; constructor <;> (first | (with_reducible exact TT.i) | (intros; (repeat (apply Wk.mk; intro Kv hN hX hR)); apply Wr.mk))
             all_goals (try simp only [Int.toNat_natCast] at *)
             all_goals first
              | exact Ob.mk ⟨by omega, of_decide_eq_true aQ⟩
              | (have h := of_decide_eq_true (show decide ((j : Int) < (w.cuts.length : Nat)) = true by with_reducible assumption)
                 first
                  | (refine Ob.mk ?_
                     simp only [Rw.len, Rw.bts, Rw.kd, kdBytes, List.length_append, List.length_cons, List.length_nil]
                     omega)
                  | (have e1 := fm_succ (f := namedC) (show j < w.cuts.length by omega)
                     refine ⟨j + 1, by omega, by omega, ?_⟩
                     refine V1 ?_; constructor <;> (first | (with_reducible exact TT.i) | (intros; (repeat (apply Wk.mk; intro Kv hN hX hR)); apply Wr.mk))
                     all_goals first
                      | exact wrapI (by omega) (by omega)
                      | (refine congrArg Rw.ints ?_
                         rw [e1, List.append_assoc]
                         rfl)
                      | rfl))
              | (have h := of_decide_eq_false (show decide ((j : Int) < (w.cuts.length : Nat)) = false by with_reducible assumption)
                 have hT : w.cuts.take j = w.cuts := List.take_of_length_le (by omega)
                 rw [hT]
                 first
                  | (refine ⟨0, Nat.zero_le _, ?_⟩
                     refine V1 ?_; constructor <;> (first | (with_reducible exact TT.i) | (intros; (repeat (apply Wk.mk; intro Kv hN hX hR)); apply Wr.mk))
                     all_goals first
                      | (refine congrArg Rw.ints ?_
                         simp
                         done)
                      | rfl)
                  | (with_reducible intro k hk
                     have hk : k ≤ w.packets.length := hk
                     have m3 := mM k
                     refine V2 ?_; constructor <;> (first | (with_reducible exact TT.i) | (intros; (repeat (apply Wk.mk; intro Kv hN hX hR)); apply Wr.mk))
                     all_goals (try simp only [Int.toNat_natCast] at *)
                     all_goals first
                      | exact Ob.mk ⟨by omega, of_decide_eq_true aQ⟩
                      | (have h := of_decide_eq_true (show decide ((k : Int) < (w.packets.length : Nat)) = true by with_reducible assumption)
                         have hx := mayB_ids (q2 _ (getD_mem (d := default) (show k < w.packets.length by omega)))
                         first
                          | (refine Ob.mk ?_
                             simp only [Rw.len, Rw.bts, Rw.kd, kdBytes, List.length_append, List.length_cons, List.length_nil]
                             omega)
                          | (have e1 := fm_succ (f := namedM) (show k < w.packets.length by omega)
                             refine ⟨k + 1, by omega, by omega, ?_⟩
                             refine V1 ?_; constructor <;> (first | (with_reducible exact TT.i) | (intros; (repeat (apply Wk.mk; intro Kv hN hX hR)); apply Wr.mk))
                             all_goals first
                              | exact wrapI (by omega) (by omega)
                              | (refine congrArg Rw.ints ?_
                                 rw [e1, show namedM (w.packets.getD k default) = [(w.packets.getD k default).src, (w.packets.getD k default).dst] ++ (w.packets.getD k default).ids from rfl]
                                 simp only [List.append_assoc])
                              | rfl))
                      | (have h := of_decide_eq_false (show decide ((k : Int) < (w.packets.length : Nat)) = false by with_reducible assumption)
                         have hT : w.packets.take k = w.packets := List.take_of_length_le (by omega)
                         rw [hT]
                         rfl))))))
theorem k_wMay1 : Known Tryz.prog tau 84 (S2 dInt dPWorld fun x w => .ob (RisingN w.nodes) (.bool (!isNd w.nodes x)) []) := by
 refine known2 hmix tau_ok (ctx_cons k_wFind ctx_nil) (fn := Tryz.f84) (by kernel_rfl) [] (by kernel_rfl) _ _ _ fun x w hfit hs => ⟨rfl, [], ?_⟩
 clear hfit
 refine V1 ?_; constructor <;> (first | (with_reducible exact TT.i) | (intros; (repeat (apply Wk.mk; intro Kv hN hX hR)); apply Wr.mk))
 all_goals first
  | exact Ob.mk hs
  | rfl
theorem k_wIndex : Known Tryz.prog tau 136 (S2 dInts (dFnWorld 84) fun l w => .ob (RisingN w.nodes) (.int .i64 (idxI (fun x => !isNd w.nodes x) l)) []) := by
 refine known2 hmix tau_ok (ctx_cons k_wMay1 ctx_nil) (fn := Tryz.f136) (by kernel_rfl) [] (by kernel_rfl) _ _ _ fun xs w hfit hs => ⟨rfl,
  [(2, invN [4, 5, 8, 9, 10, 11, 12, 13, 14, 15, 16, 17, 18] (fun i => i ≤ xs.length ∧ ∀ x ∈ xs.take i, (!isNd w.nodes x) = false) (fun i => withS [(8, .int .i64 i)]) (fun i => xs.length - i))], ?_⟩
 have hlen : xs.length * 8 ≤ 140737488355328 := hfit.1
 clear hfit
 refine V2 ?_; constructor <;> (first | (with_reducible exact TT.i) | (intros; (repeat (apply Wk.mk; intro Kv hN hX hR)); apply Wr.mk))
 all_goals first
  | (refine ⟨0, ⟨by omega, by simp⟩, ?_⟩
     refine V1 ?_; constructor <;> (first | (with_reducible exact TT.i) | (intros; (repeat (apply Wk.mk; intro Kv hN hX hR)); apply Wr.mk))
     all_goals rfl)
  | (with_reducible intro i hi
     refine V1 ?_; constructor <;> (first | (with_reducible exact TT.i) | (intros; (repeat (apply Wk.mk; intro Kv hN hX hR)); apply Wr.mk))
     all_goals (try simp only [Int.toNat_natCast] at *)
     all_goals first
      | exact Ob.mk ⟨by omega, of_decide_eq_true aQ⟩
      | exact Ob.mk hs
      | (have h := of_decide_eq_true (show decide ((i : Int) < (xs.length : Nat)) = true by with_reducible assumption)
         exact (idxI_at (d := 0) (by omega) hi.2 aQ).symm)
      | (have h := of_decide_eq_true (show decide ((i : Int) < (xs.length : Nat)) = true by with_reducible assumption)
         refine ⟨i + 1, ⟨by omega, all_take_succ (d := 0) (by omega) hi.2 aQ⟩, by show xs.length - (i + 1) < xs.length - i; omega, ?_⟩
         refine V1 ?_; constructor <;> (first | (with_reducible exact TT.i) | (intros; (repeat (apply Wk.mk; intro Kv hN hX hR)); apply Wr.mk))
         all_goals first
          | exact wrapI (by omega) (by omega)
          | rfl)
      | (have h := of_decide_eq_false (show decide ((i : Int) < (xs.length : Nat)) = false by with_reducible assumption)
         have h2 := hi.2
         rw [List.take_of_length_le (by omega)] at h2
         exact (idxI_none h2).symm))
theorem k_wContains : Known Tryz.prog tau 82 (S2 dInts (dFnWorld 84) fun l w => .ob (RisingN w.nodes) (.bool (l.any fun x => !isNd w.nodes x)) []) := by
 refine known2 hmix tau_ok (ctx_cons k_wIndex ctx_nil) (fn := Tryz.f82) (by kernel_rfl) [] (by kernel_rfl) _ _ _ fun xs w hfit hs => ⟨rfl, [], ?_⟩
 clear hfit
 refine V1 ?_; constructor <;> (first | (with_reducible exact TT.i) | (intros; (repeat (apply Wk.mk; intro Kv hN hX hR)); apply Wr.mk))
 all_goals first
  | exact Ob.mk hs
  | exact idxI_ge _ _
def worldB (w : GWorld) : Bool := nodesB w.nodes && (cutsB w.cuts && (queueB w.packets && (namedW w).all (isNd w.nodes)))
theorem etaWorld (w : GWorld) : (⟨w.nodes, w.cuts, w.packets⟩ : GWorld) = w := rfl
theorem worldB_iff {w : GWorld} : worldB w = true ↔ nodesB w.nodes = true ∧ cutsB w.cuts = true ∧ queueB w.packets = true ∧ (namedW w).all (isNd w.nodes) = true := by
 simp only [worldB, Bool.and_eq_true]
theorem worldB_no {w : GWorld} (h : ¬ (nodesB w.nodes = true ∧ cutsB w.cuts = true ∧ queueB w.packets = true ∧ (namedW w).all (isNd w.nodes) = true)) : worldB w = false := by
 rw [← worldB_iff] at h
 simpa using h
theorem any_notI (l : List Int) (p : Int → Bool) : (!l.any fun x => !p x) = l.all p := by
 induction l with
 | nil => rfl
 | cons x l ih => rw [List.any_cons, List.all_cons, Bool.not_or, ih, Bool.not_not]
theorem k_worldMay : Known Tryz.prog tau 34 (S1 dWorld fun w => okB (worldB w)) := by
 refine known1 hmix tau_ok (ctx_cons k_nodes (ctx_cons k_cutsMay (ctx_cons k_qMay (ctx_cons k_named (ctx_cons k_wContains ctx_nil))))) (fn := Tryz.f34) (by kernel_rfl) [] (by kernel_rfl) _ _ fun w hfit => ⟨rfl, [], ?_⟩
 clear hfit
 refine V1 ?_; constructor <;> (first | (with_reducible exact TT.i) | (intros; (repeat (apply Wk.mk; intro Kv hN hX hR)); apply Wr.mk))
 all_goals (try simp only [etaWorld] at *)
 all_goals first
  | (have h := nf (show (!nodesB w.nodes) = true by with_reducible assumption)
     exact (worldB_no fun g => by rw [g.1] at h; simp at h).symm)
  | (have h := nf (show (!cutsB w.cuts) = true by with_reducible assumption)
     exact (worldB_no fun g => by rw [g.2.1] at h; simp at h).symm)
  | (have h := nf (show (!queueB w.packets) = true by with_reducible assumption)
     exact (worldB_no fun g => by rw [g.2.2.1] at h; simp at h).symm)
  | (have h1 := nt (show (!nodesB w.nodes) = false by with_reducible assumption)
     have h2 := nt (show (!cutsB w.cuts) = false by with_reducible assumption)
     have h3 := nt (show (!queueB w.packets) = false by with_reducible assumption)
     first
      | exact Ob.mk ⟨h1, h2, h3⟩
      | exact Ob.mk (nodesB_iff.1 h1).2.2.1
      | (unfold worldB
         rw [h1, h2, h3, any_notI]
         rfl))
end Go.Proofs.YtjjpakdlkjaigaaGreat

/- Contracts: worlds: their copies. -/
namespace Go.Proofs.YtjjpakdlkjaigaaGreat
open Go.RowKit
set_option maxRecDepth 20000
theorem set_selfN {l : List GNode} {i : Nat} (hi : i < l.length) : l.set i (l.getD i default) = l := by
 apply List.ext_getElem (by simp)
 intro j h1 h2
 rw [List.getElem_set]
 split
 · rename_i h; subst h; simp [List.getD_eq_getElem?_getD, hi]
 · rfl
def wOwn (w : GWorld) : List Rw := [.nodes w.nodes, .cuts w.cuts, .msgs w.packets]
set_option maxHeartbeats 1000000 in
theorem k_worldCopy : Known Tryz.prog tau 35 (S1 dWorld fun w => .ok (.agg [.own 0, .own 1, .own 2]) (wOwn w)) := by
 refine knownX1 hmix tau_ok (fn := Tryz.f35) (by kernel_rfl) [(1, [(0, 0), (1, 1), (2, 2), (3, 0), (4, 8), (5, 20), (6, 0), (7, 64), (8, 160), (9, 223), (10, 991), (11, 1791), (12, 3839), (13, 8191), (14, 16383)]), (5, [(0, 0), (1, 1), (2, 0), (3, 0), (4, 8), (5, 0), (6, 48), (7, 64), (8, 128), (9, 511), (10, 1023)])] (by kernel_rfl) _ _ fun w hfit => ⟨rfl, _, ctx_tr (t_CloneNodes 9000000) (ctx_cons k_CloneCuts (ctx_cons k_qCopy (ctx_cons k_nodeCopy ctx_nil))),
  [(3, invX Nat [3, 19, 20, 21, 22, 23, 24, 25, 26, 27, 28, 29, 30, 31, 32] [9000000] (fun i => i ≤ w.nodes.length) (fun i st => withS [(19, .int .i64 i)] (withR [(9000000, .part i (.nodes w.nodes))] st)) (fun i => w.nodes.length - i))], ?_⟩
 have hlen : w.nodes.length * 112 ≤ 140737488355328 := hfit.1.1.1
 clear hfit
 refine V4 ?_; constructor <;> (first | (with_reducible exact TT.i) | (intros; (repeat (apply Wk.mk; intro Kv hN hX hR)); apply Wr.mk))
 all_goals first
  | (refine ⟨0, Nat.zero_le _, ?_⟩
     refine V1 ?_; constructor <;> (first | (with_reducible exact TT.i) | (intros; (repeat (apply Wk.mk; intro Kv hN hX hR)); apply Wr.mk))
     all_goals rfl)
  | (with_reducible intro i hi
     have hi : i ≤ w.nodes.length := hi
     refine V1 ?_; constructor <;> (first | (with_reducible exact TT.i) | (intros; (repeat (apply Wk.mk; intro Kv hN hX hR)); apply Wr.mk))
     all_goals (try simp only [Int.toNat_natCast, etaNd] at *)
     all_goals first
      | exact Ob.mk ⟨by omega, of_decide_eq_true aQ⟩
      | (have h := of_decide_eq_true (show decide ((i : Int) < (w.nodes.length : Nat)) = true by with_reducible assumption)
         have h2 : i < w.nodes.length := by omega
         refine ⟨i + 1, h2, by omega, ?_⟩
         have e1 := set_selfN h2
         have e2 := loStep_self i
         refine V1 ?_; constructor <;> (first | (with_reducible exact TT.i) | (intros; (repeat (apply Wk.mk; intro Kv hN hX hR)); apply Wr.mk))
         all_goals first
          | exact wrapI (by omega) (by omega)
          | (rw [e2, e1])
          | rfl)
      | (have h := of_decide_eq_false (show decide ((i : Int) < (w.nodes.length : Nat)) = false by with_reducible assumption)
         show w.nodes.length ≤ i
         omega)
      | rfl)
end Go.Proofs.YtjjpakdlkjaigaaGreat

/- Contracts: queues: add, take. -/
namespace Go.Proofs.YtjjpakdlkjaigaaGreat
open Go.RowKit
set_option maxRecDepth 20000
def msgZ : GMsg := ⟨0, 0, 0, [], 0, ⟨0, ⟨0, 0⟩, 0, false⟩, false⟩
noncomputable def takeQ (ms : List GMsg) (p : Int) : GMsg × List GMsg × Int := Classical.choose (seal_ex (if queueB ms = true ∧ 0 ≤ p ∧ p < ms.length then (ms.getD p.toNat default, ms.take p.toNat ++ ms.drop (p.toNat + 1), (0 : Int)) else (msgZ, [], 1400)))
theorem takeQ_def (ms : List GMsg) (p : Int) : takeQ ms p = if queueB ms = true ∧ 0 ≤ p ∧ p < ms.length then (ms.getD p.toNat default, ms.take p.toNat ++ ms.drop (p.toNat + 1), 0) else (msgZ, [], 1400) := Classical.choose_spec (seal_ex _)
def mNew (m : GMsg) : List SV := [.int .i64 m.kind, .int .i64 m.src, .int .i64 m.dst, .row .new (.ints m.ids), .int .i64 m.key, .int .i64 m.item.key, .int .i64 m.item.ver.count, .int .i64 m.item.ver.writer, .int .i64 m.item.value, .bool m.item.gone, .bool m.has]
noncomputable def oTake (ms : List GMsg) (p : Int) : Out := .ok (.tup [.agg (mNew (takeQ ms p).1), .own 0, .int .i64 (takeQ ms p).2.2]) [.msgs (takeQ ms p).2.1]
theorem queueB_len {ms : List GMsg} (h : queueB ms = true) : ms.length ≤ 512 := by
 simp only [queueB, Bool.and_eq_true, decide_eq_true_eq] at h
 omega
theorem takeQ_no {ms : List GMsg} {p : Int} (h : queueB ms = false ∨ decide (p < 0) = true ∨ decide ((ms.length : Int) ≤ p) = true) : takeQ ms p = (msgZ, [], 1400) := by
 rw [takeQ_def, if_neg]
 rintro ⟨h1, h2, h3⟩
 simp only [decide_eq_true_eq] at h
 rcases h with h | h | h
 · rw [h1] at h; simp at h
 · omega
 · omega
theorem takeQ_yes {ms : List GMsg} {p : Int} (h1 : queueB ms = true) (h2 : decide (p < 0) = false) (h3 : decide ((ms.length : Int) ≤ p) = false) : takeQ ms p = (ms.getD p.toNat default, ms.take p.toNat ++ ms.drop (p.toNat + 1), 0) := by
 simp only [decide_eq_false_iff_not] at h2 h3
 rw [takeQ_def, if_pos ⟨h1, by omega, by omega⟩]
theorem k_Take : Known Tryz.prog tau 150 (S2 dMsgs dInt oTake) := by
 refine knownX2 hmix tau_ok (fn := Tryz.f150) (by kernel_rfl) [(5, [(0, 0), (1, 0), (2, 0), (3, 0), (4, 8), (5, 22), (6, 33), (7, 127), (8, 255)])] (by kernel_rfl) _ _ _ fun xs p hfit => ⟨rfl, _, ctx_tr t_DeleteMsgs (ctx_cons k_qMay (ctx_cons k_qCopy ctx_nil)), [], ?_⟩
 clear hfit
 refine V1 ?_; constructor <;> (first | (with_reducible exact TT.i) | (intros; (repeat (apply Wk.mk; intro Kv hN hX hR)); apply Wr.mk))
 all_goals first
  | (rw [takeQ_no (.inl (nf aQ))] <;> rfl)
  | (rw [takeQ_no (.inr (.inl aQ))] <;> rfl)
  | (rw [takeQ_no (.inr (.inr aQ))] <;> rfl)
  | (have h1 : (!queueB xs) = false := by with_reducible assumption
     have h2 : decide (p < 0) = false := by with_reducible assumption
     have h3 : decide ((xs.length : Int) ≤ p) = false := by with_reducible assumption
     have g1 := nt h1
     have g2 := of_decide_eq_false h2
     have g3 := of_decide_eq_false h3
     have g4 := queueB_len g1
     have e1 : IntKind.i64.wrap (p + 1) = p + 1 := wrapI (by omega) (by omega)
     have e2 : (p + 1).toNat = p.toNat + 1 := by omega
     first
      | exact Ob.mk ⟨by omega, by omega⟩
      | exact Ob.mk ⟨by omega, by rw [e1]; omega, by rw [e1]; omega⟩
      | (refine Ob.mk ?_
         simp only [Rw.sub, Rw.len, Rw.bts, Rw.kd, kdBytes, List.length_cons, List.length_nil, List.length_append, List.length_take, List.length_drop, e1, e2, Int.toNat_natCast, Int.toNat_zero]
         omega)
      | (rw [takeQ_yes g1 h2 h3, e1, e2] <;> rfl)
      | (rw [takeQ_yes g1 h2 h3] <;> rfl)
      | (rw [takeQ_yes g1 h2 h3, e1, e2]
         simp
         done))
  | skip
theorem k_SameMsgs : Known Tryz.prog tau 24 (S2 dMsgs dMsgs fun a b => okB (decide (a = b))) := by
 refine known2 hmix tau_ok (ctx_cons k_SameMsg ctx_nil) (fn := Tryz.f24) (by kernel_rfl) [(6, [(0, 0), (1, 0), (2, 3), (3, 4), (4, 0), (5, 0), (6, 48), (7, 64), (8, 136), (9, 256)])] (by kernel_rfl) _ _ _ fun xs ys hfit => ⟨rfl,
  [(4, invN [4, 5, 11, 12, 13, 14, 15, 16, 17, 18, 19, 20, 21, 22, 23, 24, 25, 26] (fun i => i ≤ xs.length ∧ ∀ j, j < i → xs.getD j default = ys.getD j default) (fun i => withS [(5, .int .i64 i)]) (fun i => xs.length - i))], ?_⟩
 have hlen : xs.length * 104 ≤ 140737488355328 := hfit.1.1
 clear hfit
 refine V2 ?_; constructor <;> (first | (with_reducible exact TT.i) | (intros; (repeat (apply Wk.mk; intro Kv hN hX hR)); apply Wr.mk))
 all_goals first
  | (have h := of_decide_eq_false (nf aQ)
     exact (decide_eq_false (fun e => h (by rw [e]))).symm)
  | (refine ⟨0, ⟨by omega, by intros; omega⟩, ?_⟩
     refine V1 ?_; constructor <;> (first | (with_reducible exact TT.i) | (intros; (repeat (apply Wk.mk; intro Kv hN hX hR)); apply Wr.mk))
     all_goals rfl)
  | (with_reducible intro i hi
     have hl : (xs.length : Int) = ys.length := of_decide_eq_true (nt aQ)
     refine V1 ?_; constructor <;> (first | (with_reducible exact TT.i) | (intros; (repeat (apply Wk.mk; intro Kv hN hX hR)); apply Wr.mk))
     all_goals (try simp only [Int.toNat_natCast, etaMsg] at *)
     all_goals first
      | (have h := of_decide_eq_true (show decide ((i : Int) < (xs.length : Nat)) = true by with_reducible assumption)
         exact Ob.mk ⟨by omega, by omega⟩)
      | (have h3 := of_decide_eq_false (nf aQ)
         exact (decide_eq_false (fun e => h3 (by rw [e]))).symm)
      | (have h := of_decide_eq_true (show decide ((i : Int) < (xs.length : Nat)) = true by with_reducible assumption)
         have h3 : xs.getD i default = ys.getD i default := of_decide_eq_true (nt aQ)
         refine ⟨i + 1, ⟨by omega, fun j hj => ?_⟩, by show xs.length - (i + 1) < xs.length - i; omega, ?_⟩
         · rcases Nat.lt_succ_iff_lt_or_eq.1 hj with h4 | h4
           · exact hi.2 j h4
           · subst h4; exact h3
         · refine V1 ?_; constructor <;> (first | (with_reducible exact TT.i) | (intros; (repeat (apply Wk.mk; intro Kv hN hX hR)); apply Wr.mk))
           all_goals first
            | exact wrapI (by omega) (by omega)
            | rfl)
      | (have h := of_decide_eq_false (show decide ((i : Int) < (xs.length : Nat)) = false by with_reducible assumption)
         exact (decide_eq_true (eq_of_take (d := default) (by omega) fun j hj => hi.2 j (by omega))).symm)
      | skip)
  | skip
end Go.Proofs.YtjjpakdlkjaigaaGreat

/- Contracts: the laws' comparisons: Peers. -/
namespace Go.Proofs.YtjjpakdlkjaigaaGreat
open Go.RowKit
set_option maxRecDepth 20000
theorem k_SamePeers : Known Tryz.prog tau 55 (S2 dPeers dPeers fun a b => okB (decide (a = b))) := by
 refine known2 hmix tau_ok ctx_nil (fn := Tryz.f55) (by kernel_rfl) [(6, [(0, 0), (1, 0), (2, 3), (3, 4), (4, 0), (5, 0), (6, 48), (7, 64), (8, 136)])] (by kernel_rfl) _ _ _ fun xs ys hfit => ⟨rfl,
  [(4, invN [4, 5, 11, 12, 13, 14, 15, 16, 17, 18, 19, 20, 21, 22, 23, 24, 25] (fun i => i ≤ xs.length ∧ ∀ j, j < i → xs.getD j default = ys.getD j default) (fun i => withS [(5, .int .i64 i)]) (fun i => xs.length - i))], ?_⟩
 have hlen : xs.length * 16 ≤ 140737488355328 := hfit.1
 clear hfit
 refine V2 ?_; constructor <;> (first | (with_reducible exact TT.i) | (intros; (repeat (apply Wk.mk; intro Kv hN hX hR)); apply Wr.mk))
 all_goals first
  | (have h := of_decide_eq_false (nf aQ)
     exact (decide_eq_false (fun e => h (by rw [e]))).symm)
  | (refine ⟨0, ⟨by omega, by intros; omega⟩, ?_⟩
     refine V1 ?_; constructor <;> (first | (with_reducible exact TT.i) | (intros; (repeat (apply Wk.mk; intro Kv hN hX hR)); apply Wr.mk))
     all_goals rfl)
  | (with_reducible intro i hi
     have hl : (xs.length : Int) = ys.length := of_decide_eq_true (nt aQ)
     refine V1 ?_; constructor <;> (first | (with_reducible exact TT.i) | (intros; (repeat (apply Wk.mk; intro Kv hN hX hR)); apply Wr.mk))
     all_goals (try simp only [Int.toNat_natCast] at *)
     all_goals first
      | (have h := of_decide_eq_true (show decide ((i : Int) < (xs.length : Nat)) = true by with_reducible assumption)
         exact Ob.mk ⟨by omega, by omega⟩)
      | (have h := of_decide_eq_true (show decide ((i : Int) < (xs.length : Nat)) = true by with_reducible assumption)
         have h3 : ¬ (xs.getD i default = ys.getD i default) := by
          intro e
          simp_all
          done
         exact (decide_eq_false (fun e => h3 (by rw [e]))).symm)
      | (have h := of_decide_eq_true (show decide ((i : Int) < (xs.length : Nat)) = true by with_reducible assumption)
         have h3 : xs.getD i default = ys.getD i default := by
          simp only [Bool.not_eq_false', Bool.and_eq_true, decide_eq_true_eq] at *
          first
           | assumption
           | (rename_i h4; cases hx : xs.getD i default; cases hy : ys.getD i default; simp_all)
         refine ⟨i + 1, ⟨by omega, fun j hj => ?_⟩, by show xs.length - (i + 1) < xs.length - i; omega, ?_⟩
         · rcases Nat.lt_succ_iff_lt_or_eq.1 hj with h4 | h4
           · exact hi.2 j h4
           · subst h4; exact h3
         · refine V1 ?_; constructor <;> (first | (with_reducible exact TT.i) | (intros; (repeat (apply Wk.mk; intro Kv hN hX hR)); apply Wr.mk))
           all_goals first
            | exact wrapI (by omega) (by omega)
            | rfl)
      | (have h := of_decide_eq_false (show decide ((i : Int) < (xs.length : Nat)) = false by with_reducible assumption)
         exact (decide_eq_true (eq_of_take (d := default) (by omega) fun j hj => hi.2 j (by omega))).symm))
end Go.Proofs.YtjjpakdlkjaigaaGreat

/- Contracts: the laws' comparisons: Items. -/
namespace Go.Proofs.YtjjpakdlkjaigaaGreat
open Go.RowKit
set_option maxRecDepth 20000
theorem k_SameItems : Known Tryz.prog tau 63 (S2 dItems dItems fun a b => okB (decide (a = b))) := by
 refine known2 hmix tau_ok ctx_nil (fn := Tryz.f63) (by kernel_rfl) [(6, [(0, 0), (1, 0), (2, 3), (3, 4), (4, 0), (5, 0), (6, 48), (7, 64), (8, 136)])] (by kernel_rfl) _ _ _ fun xs ys hfit => ⟨rfl,
  [(4, invN [4, 5, 11, 12, 13, 14, 15, 16, 17, 18, 19, 20, 21, 22, 23, 24, 25] (fun i => i ≤ xs.length ∧ ∀ j, j < i → xs.getD j default = ys.getD j default) (fun i => withS [(5, .int .i64 i)]) (fun i => xs.length - i))], ?_⟩
 have hlen : xs.length * 40 ≤ 140737488355328 := hfit.1
 clear hfit
 refine V2 ?_; constructor <;> (first | (with_reducible exact TT.i) | (intros; (repeat (apply Wk.mk; intro Kv hN hX hR)); apply Wr.mk))
 all_goals first
  | (have h := of_decide_eq_false (nf aQ)
     exact (decide_eq_false (fun e => h (by rw [e]))).symm)
  | (refine ⟨0, ⟨by omega, by intros; omega⟩, ?_⟩
     refine V1 ?_; constructor <;> (first | (with_reducible exact TT.i) | (intros; (repeat (apply Wk.mk; intro Kv hN hX hR)); apply Wr.mk))
     all_goals rfl)
  | (with_reducible intro i hi
     have hl : (xs.length : Int) = ys.length := of_decide_eq_true (nt aQ)
     refine V1 ?_; constructor <;> (first | (with_reducible exact TT.i) | (intros; (repeat (apply Wk.mk; intro Kv hN hX hR)); apply Wr.mk))
     all_goals (try simp only [Int.toNat_natCast] at *)
     all_goals first
      | (have h := of_decide_eq_true (show decide ((i : Int) < (xs.length : Nat)) = true by with_reducible assumption)
         exact Ob.mk ⟨by omega, by omega⟩)
      | (have h := of_decide_eq_true (show decide ((i : Int) < (xs.length : Nat)) = true by with_reducible assumption)
         have h3 : ¬ (xs.getD i default = ys.getD i default) := by
          intro e
          simp_all
          done
         exact (decide_eq_false (fun e => h3 (by rw [e]))).symm)
      | (have h := of_decide_eq_true (show decide ((i : Int) < (xs.length : Nat)) = true by with_reducible assumption)
         have h3 : xs.getD i default = ys.getD i default := by
          have key : ∀ p q : GItem, (!(decide (p.key = q.key) && (decide (p.ver.count = q.ver.count) && (decide (p.ver.writer = q.ver.writer) && (decide (p.value = q.value) && p.gone == q.gone))))) = false → p = q := by
           rintro ⟨_, ⟨_, _⟩, _, _⟩ ⟨_, ⟨_, _⟩, _, _⟩ h
           simp_all
          exact key _ _ aQ
         refine ⟨i + 1, ⟨by omega, fun j hj => ?_⟩, by show xs.length - (i + 1) < xs.length - i; omega, ?_⟩
         · rcases Nat.lt_succ_iff_lt_or_eq.1 hj with h4 | h4
           · exact hi.2 j h4
           · subst h4; exact h3
         · refine V1 ?_; constructor <;> (first | (with_reducible exact TT.i) | (intros; (repeat (apply Wk.mk; intro Kv hN hX hR)); apply Wr.mk))
           all_goals first
            | exact wrapI (by omega) (by omega)
            | rfl)
      | (have h := of_decide_eq_false (show decide ((i : Int) < (xs.length : Nat)) = false by with_reducible assumption)
         exact (decide_eq_true (eq_of_take (d := default) (by omega) fun j hj => hi.2 j (by omega))).symm))
end Go.Proofs.YtjjpakdlkjaigaaGreat

/- Contracts: the laws' comparisons: Tolds. -/
namespace Go.Proofs.YtjjpakdlkjaigaaGreat
open Go.RowKit
set_option maxRecDepth 20000
theorem k_SameTolds : Known Tryz.prog tau 64 (S2 dTolds dTolds fun a b => okB (decide (a = b))) := by
 refine known2 hmix tau_ok ctx_nil (fn := Tryz.f64) (by kernel_rfl) [(6, [(0, 0), (1, 0), (2, 3), (3, 4), (4, 0), (5, 0), (6, 48), (7, 64), (8, 136)])] (by kernel_rfl) _ _ _ fun xs ys hfit => ⟨rfl,
  [(4, invN [4, 5, 11, 12, 13, 14, 15, 16, 17, 18, 19, 20, 21, 22, 23, 24, 25] (fun i => i ≤ xs.length ∧ ∀ j, j < i → xs.getD j default = ys.getD j default) (fun i => withS [(5, .int .i64 i)]) (fun i => xs.length - i))], ?_⟩
 have hlen : xs.length * 24 ≤ 140737488355328 := hfit.1
 clear hfit
 refine V2 ?_; constructor <;> (first | (with_reducible exact TT.i) | (intros; (repeat (apply Wk.mk; intro Kv hN hX hR)); apply Wr.mk))
 all_goals first
  | (have h := of_decide_eq_false (nf aQ)
     exact (decide_eq_false (fun e => h (by rw [e]))).symm)
  | (refine ⟨0, ⟨by omega, by intros; omega⟩, ?_⟩
     refine V1 ?_; constructor <;> (first | (with_reducible exact TT.i) | (intros; (repeat (apply Wk.mk; intro Kv hN hX hR)); apply Wr.mk))
     all_goals rfl)
  | (with_reducible intro i hi
     have hl : (xs.length : Int) = ys.length := of_decide_eq_true (nt aQ)
     refine V1 ?_; constructor <;> (first | (with_reducible exact TT.i) | (intros; (repeat (apply Wk.mk; intro Kv hN hX hR)); apply Wr.mk))
     all_goals (try simp only [Int.toNat_natCast] at *)
     all_goals first
      | (have h := of_decide_eq_true (show decide ((i : Int) < (xs.length : Nat)) = true by with_reducible assumption)
         exact Ob.mk ⟨by omega, by omega⟩)
      | (have h := of_decide_eq_true (show decide ((i : Int) < (xs.length : Nat)) = true by with_reducible assumption)
         have h3 : ¬ (xs.getD i default = ys.getD i default) := by
          intro e
          simp_all
          done
         exact (decide_eq_false (fun e => h3 (by rw [e]))).symm)
      | (have h := of_decide_eq_true (show decide ((i : Int) < (xs.length : Nat)) = true by with_reducible assumption)
         have h3 : xs.getD i default = ys.getD i default := by
          simp only [Bool.not_eq_false', Bool.and_eq_true, decide_eq_true_eq] at *
          first
           | assumption
           | (rename_i h4; cases hx : xs.getD i default; cases hy : ys.getD i default; simp_all)
         refine ⟨i + 1, ⟨by omega, fun j hj => ?_⟩, by show xs.length - (i + 1) < xs.length - i; omega, ?_⟩
         · rcases Nat.lt_succ_iff_lt_or_eq.1 hj with h4 | h4
           · exact hi.2 j h4
           · subst h4; exact h3
         · refine V1 ?_; constructor <;> (first | (with_reducible exact TT.i) | (intros; (repeat (apply Wk.mk; intro Kv hN hX hR)); apply Wr.mk))
           all_goals first
            | exact wrapI (by omega) (by omega)
            | rfl)
      | (have h := of_decide_eq_false (show decide ((i : Int) < (xs.length : Nat)) = false by with_reducible assumption)
         exact (decide_eq_true (eq_of_take (d := default) (by omega) fun j hj => hi.2 j (by omega))).symm))
end Go.Proofs.YtjjpakdlkjaigaaGreat

/- Chapter 16: the laws' functions. -/
namespace Go.Proofs.YtjjpakdlkjaigaaGreat
open Go.RowKit
set_option maxRecDepth 20000
theorem k_SameView : Known Tryz.prog tau 62 (S2 dView dView fun a b => okB (decide (a = b))) := by
 refine known2 hmix tau_ok (ctx_cons k_SamePeers (ctx_cons k_SameInts ctx_nil)) (fn := Tryz.f62) (by kernel_rfl) [] (by kernel_rfl) _ _ _ fun a b hfit => ⟨rfl, [], ?_⟩
 clear hfit
 refine V1 ?_; constructor <;> (first | (with_reducible exact TT.i) | (intros; (repeat (apply Wk.mk; intro Kv hN hX hR)); apply Wr.mk))
 all_goals (cases a; cases b; simp_all)
theorem k_SameNode : Known Tryz.prog tau 23 (S2 dNode dNode fun a b => okB (decide (a = b))) := by
 refine known2 hmix tau_ok (ctx_cons k_SameView (ctx_cons k_SameItems (ctx_cons k_SameTolds ctx_nil))) (fn := Tryz.f23) (by kernel_rfl) [] (by kernel_rfl) _ _ _ fun a b hfit => ⟨rfl, [], ?_⟩
 clear hfit
 refine V1 ?_; constructor <;> (first | (with_reducible exact TT.i) | (intros; (repeat (apply Wk.mk; intro Kv hN hX hR)); apply Wr.mk))
 all_goals (rcases a with ⟨a1, ⟨a2, a3, a4⟩, a5, a6⟩; rcases b with ⟨b1, ⟨b2, b3, b4⟩, b5, b6⟩; simp_all)
end Go.Proofs.YtjjpakdlkjaigaaGreat

/- Contracts: the laws' comparisons: Cuts. -/
namespace Go.Proofs.YtjjpakdlkjaigaaGreat
open Go.RowKit
set_option maxRecDepth 20000
theorem k_SameCuts : Known Tryz.prog tau 29 (S2 dCuts dCuts fun a b => okB (decide (a = b))) := by
 refine known2 hmix tau_ok ctx_nil (fn := Tryz.f29) (by kernel_rfl) [(6, [(0, 0), (1, 0), (2, 3), (3, 4), (4, 0), (5, 0), (6, 48), (7, 64), (8, 136)])] (by kernel_rfl) _ _ _ fun xs ys hfit => ⟨rfl,
  [(4, invN [4, 5, 11, 12, 13, 14, 15, 16, 17, 18, 19, 20, 21, 22, 23, 24, 25] (fun i => i ≤ xs.length ∧ ∀ j, j < i → xs.getD j default = ys.getD j default) (fun i => withS [(5, .int .i64 i)]) (fun i => xs.length - i))], ?_⟩
 have hlen : xs.length * 16 ≤ 140737488355328 := hfit.1
 clear hfit
 refine V2 ?_; constructor <;> (first | (with_reducible exact TT.i) | (intros; (repeat (apply Wk.mk; intro Kv hN hX hR)); apply Wr.mk))
 all_goals first
  | (have h := of_decide_eq_false (nf aQ)
     exact (decide_eq_false (fun e => h (by rw [e]))).symm)
  | (refine ⟨0, ⟨by omega, by intros; omega⟩, ?_⟩
     refine V1 ?_; constructor <;> (first | (with_reducible exact TT.i) | (intros; (repeat (apply Wk.mk; intro Kv hN hX hR)); apply Wr.mk))
     all_goals rfl)
  | (with_reducible intro i hi
     have hl : (xs.length : Int) = ys.length := of_decide_eq_true (nt aQ)
     refine V1 ?_; constructor <;> (first | (with_reducible exact TT.i) | (intros; (repeat (apply Wk.mk; intro Kv hN hX hR)); apply Wr.mk))
     all_goals (try simp only [Int.toNat_natCast] at *)
     all_goals first
      | (have h := of_decide_eq_true (show decide ((i : Int) < (xs.length : Nat)) = true by with_reducible assumption)
         exact Ob.mk ⟨by omega, by omega⟩)
      | (have h := of_decide_eq_true (show decide ((i : Int) < (xs.length : Nat)) = true by with_reducible assumption)
         have h3 : ¬ (xs.getD i default = ys.getD i default) := by
          intro e
          simp_all
          done
         exact (decide_eq_false (fun e => h3 (by rw [e]))).symm)
      | (have h := of_decide_eq_true (show decide ((i : Int) < (xs.length : Nat)) = true by with_reducible assumption)
         have h3 : xs.getD i default = ys.getD i default := by
          simp only [Bool.not_eq_false', Bool.and_eq_true, decide_eq_true_eq] at *
          first
           | assumption
           | (rename_i h4; cases hx : xs.getD i default; cases hy : ys.getD i default; simp_all)
         refine ⟨i + 1, ⟨by omega, fun j hj => ?_⟩, by show xs.length - (i + 1) < xs.length - i; omega, ?_⟩
         · rcases Nat.lt_succ_iff_lt_or_eq.1 hj with h4 | h4
           · exact hi.2 j h4
           · subst h4; exact h3
         · refine V1 ?_; constructor <;> (first | (with_reducible exact TT.i) | (intros; (repeat (apply Wk.mk; intro Kv hN hX hR)); apply Wr.mk))
           all_goals first
            | exact wrapI (by omega) (by omega)
            | rfl)
      | (have h := of_decide_eq_false (show decide ((i : Int) < (xs.length : Nat)) = false by with_reducible assumption)
         exact (decide_eq_true (eq_of_take (d := default) (by omega) fun j hj => hi.2 j (by omega))).symm))
end Go.Proofs.YtjjpakdlkjaigaaGreat

/- Contracts: new worlds; messages sent; comparisons. -/
namespace Go.Proofs.YtjjpakdlkjaigaaGreat
open Go.RowKit
set_option maxRecDepth 20000
def upN (id : Int) : GNode := ⟨true, ⟨id, [], []⟩, [], []⟩
def worldZ : GWorld := ⟨[], [], []⟩
theorem newN_up {id : Int} (h : placeB id = true) : newN id [] = (upN id, 0) := newN_yes h rfl
noncomputable def newW (ids : List Int) : GWorld × Int := Classical.choose (seal_ex (if 1 ≤ ids.length ∧ ids.length ≤ 8 ∧ passB ids = true then ((⟨ids.map upN, [], []⟩ : GWorld), (0 : Int)) else (worldZ, 2300)))
theorem newW_def (ids : List Int) : newW ids = if 1 ≤ ids.length ∧ ids.length ≤ 8 ∧ passB ids = true then ((⟨ids.map upN, [], []⟩ : GWorld), (0 : Int)) else (worldZ, 2300) := Classical.choose_spec (seal_ex _)
theorem newW_no {ids : List Int} (h : ¬ (1 ≤ ids.length ∧ ids.length ≤ 8 ∧ passB ids = true)) : newW ids = (worldZ, 2300) := by rw [newW_def, if_neg h]
theorem newW_yes {ids : List Int} (h1 : 1 ≤ ids.length) (h2 : ids.length ≤ 8) (h3 : passB ids = true) : newW ids = (⟨ids.map upN, [], []⟩, 0) := by rw [newW_def, if_pos ⟨h1, h2, h3⟩]
noncomputable def oNewW (ids : List Int) : Out := .ok (.tup [.agg [.own 0, .row .new (.cuts (newW ids).1.cuts), .row .new (.msgs (newW ids).1.packets)], .int .i64 (newW ids).2]) [.nodes (newW ids).1.nodes]
theorem up_succ {l : List Int} {i : Nat} (h : i < l.length) : (l.take (i + 1)).map upN = (l.take i).map upN ++ [upN (l.getD i 0)] := by
 rw [List.take_succ_eq_append_getElem h, List.map_append]
 simp [List.getD_eq_getElem?_getD, h]
theorem up_one {l : List Int} (h : 0 < l.length) : (l.take 1).map upN = [upN (l.getD 0 0)] := by
 cases l with
 | nil => simp at h
 | cons x l => rfl
theorem all_take1 {l : List Int} {x : Int} (h : 0 < l.length) (hx : x ∈ l.take 1) : x = l.getD 0 0 := by
 cases l with
 | nil => simp at h
 | cons y l => simpa using hx
set_option maxHeartbeats 4000000 in
theorem k_refNewW : Known Tryz.prog tau 56 (S1 dInts oNewW) := by
 refine known1 hmix tau_ok (ctx_cons k_refNew ctx_nil) (fn := Tryz.f56) (by kernel_rfl) [(8, [(0, 0), (1, 1), (2, 2), (3, 4), (4, 12), (5, 20), (6, 32), (7, 32), (8, 160), (9, 352), (10, 544), (11, 32), (12, 32), (13, 6176), (14, 8224), (15, 17440), (16, 32804), (17, 65540)])] (by kernel_rfl) _ _ fun l hfit => ⟨rfl,
  [(5, invX Nat (3 :: 5 :: 6 :: 7 :: 17 :: 18 :: 19 :: 20 :: 21 :: 22 :: 23 :: 24 :: 25 :: 26 :: 27 :: 28 :: 29 :: 30 :: 31 :: 32 :: 33 :: 34 :: 35 :: 36 :: 37 :: 38 :: 39 :: 40 :: 41 :: 42 :: 43 :: 44 :: 45 :: 46 :: 47 :: 48 :: 49 :: 50 :: 51 :: 52 :: 53 :: 54 :: 55 :: []) [4, 54] (fun i => i ≤ l.length ∧ (∀ x ∈ l.take i, placeB x = true) ∧ ∀ t, t + 1 < i → l.getD t 0 < l.getD (t + 1) 0) (fun i => match i with
    | 0 => fun st => withS [(5, .int .i64 0)] (withB [(4, (26, [.nilS (.nodes []), .nilS (.cuts []), .nilS (.msgs [])]))] st)
    | i + 1 => fun st => withS [(5, .int .i64 ((i + 1 : Nat) : Int))] (withR [(54, .own (.nodes ((l.take (i + 1)).map upN)))] (withB [(4, (26, [.own 54, .nilS (.cuts []), .nilS (.msgs [])]))] st))) (fun i => l.length - i))], ?_⟩
 clear hfit
 refine V2 ?_; constructor <;> (first | (with_reducible exact TT.i) | (intros; (repeat (apply Wk.mk; intro Kv hN hX hR)); apply Wr.mk))
 all_goals first
  | (have h := of_decide_eq_true (show decide ((l.length : Int) < 1) = true by with_reducible assumption)
     rw [newW_no (fun g => by have := g.1; omega)] <;> rfl)
  | (have h := of_decide_eq_true (show decide ((8 : Int) < (l.length : Nat)) = true by with_reducible assumption)
     rw [newW_no (fun g => by have := g.2.1; omega)] <;> rfl)
  | (have n1 := of_decide_eq_false (show decide ((l.length : Int) < 1) = false by with_reducible assumption)
     have n2 := of_decide_eq_false (show decide ((8 : Int) < (l.length : Nat)) = false by with_reducible assumption)
     first
      | (refine ⟨0, ⟨Nat.zero_le _, by simp, by intros; omega⟩, ?_⟩
         refine V1 ?_; constructor <;> (first | (with_reducible exact TT.i) | (intros; (repeat (apply Wk.mk; intro Kv hN hX hR)); apply Wr.mk))
         all_goals rfl)
      | (with_reducible intro i hi
         obtain ⟨hi, hp, hr⟩ : i ≤ l.length ∧ (∀ x ∈ l.take i, placeB x = true) ∧ ∀ t, t + 1 < i → l.getD t 0 < l.getD (t + 1) 0 := hi
         rcases i with _ | i
         all_goals
          refine V1 ?_; constructor <;> (first | (with_reducible exact TT.i) | (intros; (repeat (apply Wk.mk; intro Kv hN hX hR)); apply Wr.mk))
         all_goals (try simp only [Int.toNat_natCast, Int.toNat_zero, etaNd, List.nil_append] at *)
         all_goals first
          | exact Ob.mk ⟨by omega, of_decide_eq_true aQ⟩
          | (have hb := back1 (i := i + 1) (by omega) (by omega)
             exact Ob.mk (by rw [hb.2]; omega))
          | (refine Ob.mk ?_
             simp only [Rw.len, Rw.bts, Rw.kd, kdBytes, List.length_cons, List.length_nil, List.length_map, List.length_take]
             omega)
          | (have h := of_decide_eq_true (show decide ((0 : Int) < (l.length : Nat)) = true by with_reducible assumption)
             have hm := getD_mem (d := (0 : Int)) (show 0 < l.length by omega)
             cases hpl : placeB (l.getD 0 0) with
             | true =>
               have e1 := newN_up hpl
               have e2 := up_one (show 0 < l.length by omega)
               first
                | (exfalso
                   have h3 : (!decide ((newN (l.getD 0 0) []).2 = 0)) = true := by with_reducible assumption
                   rw [e1] at h3
                   simp at h3; done)
                | exact absurd (show decide ((0 : Int) < 0) = true by with_reducible assumption) (by decide)
                | (refine ⟨1, ⟨by show 1 ≤ l.length; omega, fun x hx => ?_, fun t ht => by omega⟩, by omega, ?_⟩
                   · rw [all_take1 (by omega) hx]
                     exact hpl
                   · refine V1 ?_; constructor <;> (first | (with_reducible exact TT.i) | (intros; (repeat (apply Wk.mk; intro Kv hN hX hR)); apply Wr.mk))
                     all_goals first
                      | exact wrapI (by omega) (by omega)
                      | (refine congrArg Rw.nodes ?_
                         rw [e2, e1]
                         done)
                      | rfl)
             | false =>
               have hn := newN_no (id := l.getD 0 0) (ids := []) (.inl hpl)
               first
                | (exfalso
                   have h3 : (!decide ((newN (l.getD 0 0) []).2 = 0)) = false := by with_reducible assumption
                   rw [hn] at h3
                   simp at h3; done)
                | (rw [newW_no (fun g => by
                    have := (passB_iff.1 g.2.2).2.2 _ hm
                    rw [hpl] at this
                    simp at this)] <;> rfl))
          | (have h := of_decide_eq_true (show decide (((i + 1 : Nat) : Int) < (l.length : Nat)) = true by with_reducible assumption)
             have hm := getD_mem (d := (0 : Int)) (show i + 1 < l.length by omega)
             have hb := back1 (i := i + 1) (by omega) (by omega)
             cases hpl : placeB (l.getD (i + 1) 0) with
             | true =>
               have e1 := newN_up hpl
               have e2 := up_succ (show i + 1 < l.length by omega)
               first
                | (exfalso
                   have h3 : (!decide ((newN (l.getD (i + 1) 0) []).2 = 0)) = true := by with_reducible assumption
                   rw [e1] at h3
                   simp at h3; done)
                | exact absurd (of_decide_eq_false (show decide (0 < ((i + 1 : Nat) : Int)) = false by with_reducible assumption)) (by omega)
                | (have hq := of_decide_eq_true (show decide (l.getD (i + 1) 0 ≤ l.getD (IntKind.i64.wrap (((i + 1 : Nat) : Int) - 1)).toNat 0) = true by with_reducible assumption)
                   rw [hb.1] at hq
                   rw [newW_no (fun g => by
                    have := (passB_iff.1 g.2.2).2.1 i (i + 1) (by omega) (by omega)
                    simp only [Nat.add_sub_cancel] at hq
                    omega)] <;> rfl)
                | (have hq := of_decide_eq_false (show decide (l.getD (i + 1) 0 ≤ l.getD (IntKind.i64.wrap (((i + 1 : Nat) : Int) - 1)).toNat 0) = false by with_reducible assumption)
                   rw [hb.1] at hq
                   refine ⟨i + 1 + 1, ⟨by show i + 1 + 1 ≤ l.length; omega, all_take_succ (d := 0) (by omega) hp hpl, fun t ht => ?_⟩, by omega, ?_⟩
                   · rcases Nat.lt_or_eq_of_le (Nat.le_of_lt_succ ht) with h3 | h3
                     · exact hr t h3
                     · rw [show t = i by omega]
                       simp only [Nat.add_sub_cancel] at hq
                       omega
                   · refine V1 ?_; constructor <;> (first | (with_reducible exact TT.i) | (intros; (repeat (apply Wk.mk; intro Kv hN hX hR)); apply Wr.mk))
                     all_goals first
                      | exact wrapI (by omega) (by omega)
                      | (refine congrArg Rw.nodes ?_
                         rw [e2, e1]
                         done)
                      | rfl)
             | false =>
               have hn := newN_no (id := l.getD (i + 1) 0) (ids := []) (.inl hpl)
               first
                | (exfalso
                   have h3 : (!decide ((newN (l.getD (i + 1) 0) []).2 = 0)) = false := by with_reducible assumption
                   rw [hn] at h3
                   simp at h3; done)
                | (rw [newW_no (fun g => by
                    have := (passB_iff.1 g.2.2).2.2 _ hm
                    rw [hpl] at this
                    simp at this)] <;> rfl))
          | (exfalso
             have h := of_decide_eq_false (show decide ((0 : Int) < (l.length : Nat)) = false by with_reducible assumption)
             omega)
          | (have h := of_decide_eq_false (show decide (((i + 1 : Nat) : Int) < (l.length : Nat)) = false by with_reducible assumption)
             have hl : l.take (i + 1) = l := List.take_of_length_le (by omega)
             rw [hl] at hp
             have hy := newW_yes (ids := l) (by omega) (by omega) (passB_iff.2 ⟨by omega, rising_adj fun t ht => hr t (by omega), hp⟩)
             rw [hy]
             first
              | done
              | rfl
              | rw [hl])))
noncomputable def sendW (w : GWorld) (ms : List GMsg) : GWorld × Int := Classical.choose (seal_ex (if worldB w = true ∧ worldB ⟨w.nodes, w.cuts, ms⟩ = true then ((⟨w.nodes, w.cuts, w.packets ++ ms.take (512 - w.packets.length)⟩ : GWorld), (0 : Int)) else (worldZ, 2300)))
theorem sendW_def (w : GWorld) (ms : List GMsg) : sendW w ms = if worldB w = true ∧ worldB ⟨w.nodes, w.cuts, ms⟩ = true then ((⟨w.nodes, w.cuts, w.packets ++ ms.take (512 - w.packets.length)⟩ : GWorld), (0 : Int)) else (worldZ, 2300) := Classical.choose_spec (seal_ex _)
theorem sendW_no {w : GWorld} {ms : List GMsg} (h : worldB w = false ∨ worldB ⟨w.nodes, w.cuts, ms⟩ = false) : sendW w ms = (worldZ, 2300) := by
 rw [sendW_def, if_neg]
 rintro ⟨h1, h2⟩
 rcases h with h | h <;> simp_all
theorem sendW_yes {w : GWorld} {ms : List GMsg} (h1 : worldB w = true) (h2 : worldB ⟨w.nodes, w.cuts, ms⟩ = true) : sendW w ms = (⟨w.nodes, w.cuts, w.packets ++ ms.take (512 - w.packets.length)⟩, 0) := by rw [sendW_def, if_pos ⟨h1, h2⟩]
noncomputable def oSendW (w : GWorld) (ms : List GMsg) : Out := .ok (.tup [.agg [.own 0, .own 1, .own 2], .int .i64 (sendW w ms).2]) (wOwn (sendW w ms).1)
theorem room_take {p ms : List GMsg} (hp : p.length ≤ 512) (hm : ms.length ≤ 512) : 0 ≤ (if IntKind.i64.wrap (512 - (p.length : Int)) < (ms.length : Int) then IntKind.i64.wrap (512 - (p.length : Int)) else (ms.length : Int)) ∧ (if IntKind.i64.wrap (512 - (p.length : Int)) < (ms.length : Int) then IntKind.i64.wrap (512 - (p.length : Int)) else (ms.length : Int)) ≤ (ms.length : Int) ∧ ms.take (if IntKind.i64.wrap (512 - (p.length : Int)) < (ms.length : Int) then IntKind.i64.wrap (512 - (p.length : Int)) else (ms.length : Int)).toNat = ms.take (512 - p.length) := by
 rw [wrapI (by omega) (by omega)]
 split
 · refine ⟨by omega, by omega, ?_⟩
   congr 1
   omega
 · refine ⟨by omega, by omega, ?_⟩
   rw [List.take_of_length_le (by omega), List.take_of_length_le (by omega)]
set_option maxHeartbeats 4000000 in
theorem k_worldSend : Known Tryz.prog tau 149 (S2 dWorld dMsgs oSendW) := by
 refine known2 hmix tau_ok (ctx_cons k_worldMay (ctx_cons k_worldCopy (ctx_cons k_qCopy ctx_nil))) (fn := Tryz.f149) (by kernel_rfl) [(7, [(0, 0), (1, 1), (2, 0), (3, 0), (4, 8), (5, 0), (6, 48), (7, 68), (8, 128), (9, 258), (10, 1023), (11, 2047)])] (by kernel_rfl) _ _ _ fun w ms hfit => ⟨rfl, [], ?_⟩
 clear hfit
 refine V1 ?_; constructor <;> (first | (with_reducible exact TT.i) | (intros; (repeat (apply Wk.mk; intro Kv hN hX hR)); apply Wr.mk))
 all_goals (try simp only [etaWorld] at *)
 all_goals first
  | (rw [sendW_no (.inl (nf (show (!worldB w) = true by with_reducible assumption)))] <;> rfl)
  | (rw [sendW_no (.inr (nf (show (!worldB ⟨w.nodes, w.cuts, ms⟩) = true by with_reducible assumption)))] <;> rfl)
  | (have h1 := nt (show (!worldB w) = false by with_reducible assumption)
     have h2 := nt (show (!worldB ⟨w.nodes, w.cuts, ms⟩) = false by with_reducible assumption)
     have l1 := (queueB_iff2.1 (worldB_iff.1 h1).2.2.1).1
     have l2 := (queueB_iff2.1 (worldB_iff.1 h2).2.2.1).1
     have l2 : ms.length ≤ 512 := l2
     obtain ⟨r1, r2, r3⟩ := room_take l1 l2
     have hy := sendW_yes h1 h2
     first
      | exact Ob.mk ⟨by omega, r1, r2⟩
      | (refine Ob.mk ?_
         simp only [Rw.len, Rw.bts, Rw.kd, kdBytes, List.length_drop, List.length_take]
         omega)
      | (rw [hy]
         first
          | done
          | rfl
          | (refine congrArg Rw.msgs ?_
             rw [show ∀ l : List GMsg, l.drop (Int.toNat 0) = l from fun l => rfl, r3])))
set_option maxHeartbeats 4000000 in
theorem k_SameWorld : Known Tryz.prog tau 15 (S2 dWorld dWorld fun a b => okB (decide (a = b))) := by
 refine known2 hmix tau_ok (ctx_cons k_SameNode (ctx_cons k_SameCuts (ctx_cons k_SameMsgs ctx_nil))) (fn := Tryz.f15) (by kernel_rfl) [(6, [(0, 0), (1, 1), (2, 0), (3, 6), (4, 8), (5, 0), (6, 32), (7, 0), (8, 192), (9, 256), (10, 528), (11, 1024)])] (by kernel_rfl) _ _ _ fun x y hfit => ⟨rfl,
  [(4, invN [4, 5, 13, 14, 15, 16, 17, 18, 19, 20, 21, 22, 23, 24, 25, 26, 27, 28, 29, 30, 31] (fun i => i ≤ x.nodes.length ∧ ∀ j, j < i → x.nodes.getD j default = y.nodes.getD j default) (fun i => withS [(5, .int .i64 i)]) (fun i => x.nodes.length - i))], ?_⟩
 have hlen : x.nodes.length * 112 ≤ 140737488355328 := hfit.1.1.1
 clear hfit
 refine V2 ?_; constructor <;> (first | (with_reducible exact TT.i) | (intros; (repeat (apply Wk.mk; intro Kv hN hX hR)); apply Wr.mk))
 all_goals first
  | (have h := of_decide_eq_false (nf (show (!decide ((x.nodes.length : Int) = (y.nodes.length : Nat))) = true by with_reducible assumption))
     exact (decide_eq_false (fun e => h (by rw [e]))).symm)
  | (refine ⟨0, ⟨by omega, by intros; omega⟩, ?_⟩
     refine V1 ?_; constructor <;> (first | (with_reducible exact TT.i) | (intros; (repeat (apply Wk.mk; intro Kv hN hX hR)); apply Wr.mk))
     all_goals rfl)
  | (with_reducible intro i hi
     have hl : (x.nodes.length : Int) = y.nodes.length := of_decide_eq_true (nt aQ)
     refine V1 ?_; constructor <;> (first | (with_reducible exact TT.i) | (intros; (repeat (apply Wk.mk; intro Kv hN hX hR)); apply Wr.mk))
     all_goals (try simp only [Int.toNat_natCast, etaNd] at *)
     all_goals first
      | (have h := of_decide_eq_true (show decide ((i : Int) < (x.nodes.length : Nat)) = true by with_reducible assumption)
         exact Ob.mk ⟨by omega, by omega⟩)
      | (have h := of_decide_eq_true (show decide ((i : Int) < (x.nodes.length : Nat)) = true by with_reducible assumption)
         first
          | (have h3 := of_decide_eq_false (nf (show (!decide (x.nodes.getD i default = y.nodes.getD i default)) = true by with_reducible assumption))
             exact (decide_eq_false (fun e => h3 (by rw [e]))).symm)
          | (have h3 : x.nodes.getD i default = y.nodes.getD i default := of_decide_eq_true (nt aQ)
             refine ⟨i + 1, ⟨by omega, fun j hj => ?_⟩, by omega, ?_⟩
             · rcases Nat.lt_succ_iff_lt_or_eq.1 hj with h4 | h4
               · exact hi.2 j h4
               · subst h4; exact h3
             · refine V1 ?_; constructor <;> (first | (with_reducible exact TT.i) | (intros; (repeat (apply Wk.mk; intro Kv hN hX hR)); apply Wr.mk))
               all_goals first
                | exact wrapI (by omega) (by omega)
                | rfl))
      | (have h := of_decide_eq_false (show decide ((i : Int) < (x.nodes.length : Nat)) = false by with_reducible assumption)
         have hn : x.nodes = y.nodes := eq_of_take (d := default) (by omega) fun j hj => hi.2 j (by omega)
         first
          | (have h1 := of_decide_eq_false (show decide (x.cuts = y.cuts) = false by with_reducible assumption)
             exact (decide_eq_false fun e => h1 (by rw [e])).symm)
          | (have h1 := of_decide_eq_true (show decide (x.cuts = y.cuts) = true by with_reducible assumption)
             refine decide_eq_decide.2 ⟨fun h2 => ?_, fun h2 => by rw [h2]⟩
             obtain ⟨a, b, c⟩ := x
             obtain ⟨a', b', c'⟩ := y
             simp only at hn h1 h2
             rw [hn, h1, h2])))
end Go.Proofs.YtjjpakdlkjaigaaGreat

/- Contracts: worlds: the document's. -/
namespace Go.Proofs.YtjjpakdlkjaigaaGreat
open Go.RowKit
set_option maxRecDepth 20000
def atN (l : List GNode) (x : Int) : Int := idxI (fun n => decide (n.view.id = x)) l
theorem atN_neg (l : List GNode) (x : Int) : decide (atN l x < 0) = !isNd l x := by
 unfold isNd
 rw [← idxI_ge]
 unfold atN
 by_cases h : 0 ≤ idxI (fun n => decide (n.view.id = x)) l
 · rw [decide_eq_true h, decide_eq_false (by omega)]
   rfl
 · rw [decide_eq_false h, decide_eq_true (by omega)]
   rfl
theorem k_At : Known Tryz.prog tau 26 (S2 dNodes dInt fun l x => .ok (.int .i64 (atN l x)) []) := by
 refine known2 hmix tau_ok ctx_nil (fn := Tryz.f26) (by kernel_rfl) [] (by kernel_rfl) _ _ _ fun xs x hfit => ⟨rfl,
  [(2, invN [4, 5, 6, 7, 8, 9, 10, 11, 12, 13, 14, 15, 16, 17, 18, 19, 20] (fun i => i ≤ xs.length ∧ ∀ n ∈ xs.take i, decide (n.view.id = x) = false) (fun i => withS [(5, .int .i64 i)]) (fun i => xs.length - i))], ?_⟩
 have hlen : xs.length * 112 ≤ 140737488355328 := hfit.1.1
 clear hfit
 refine V2 ?_; constructor <;> (first | (with_reducible exact TT.i) | (intros; (repeat (apply Wk.mk; intro Kv hN hX hR)); apply Wr.mk))
 all_goals first
  | (refine ⟨0, ⟨by omega, by simp⟩, ?_⟩
     refine V1 ?_; constructor <;> (first | (with_reducible exact TT.i) | (intros; (repeat (apply Wk.mk; intro Kv hN hX hR)); apply Wr.mk))
     all_goals rfl)
  | (with_reducible intro i hi
     refine V1 ?_; constructor <;> (first | (with_reducible exact TT.i) | (intros; (repeat (apply Wk.mk; intro Kv hN hX hR)); apply Wr.mk))
     all_goals (try simp only [Int.toNat_natCast] at *)
     all_goals first
      | exact Ob.mk ⟨by omega, of_decide_eq_true aQ⟩
      | (have h := of_decide_eq_true (show decide ((i : Int) < (xs.length : Nat)) = true by with_reducible assumption)
         exact (idxI_at (d := default) (by omega) hi.2 aQ).symm)
      | (have h := of_decide_eq_true (show decide ((i : Int) < (xs.length : Nat)) = true by with_reducible assumption)
         refine ⟨i + 1, ⟨by omega, all_take_succ (d := default) (by omega) hi.2 aQ⟩, by show xs.length - (i + 1) < xs.length - i; omega, ?_⟩
         refine V1 ?_; constructor <;> (first | (with_reducible exact TT.i) | (intros; (repeat (apply Wk.mk; intro Kv hN hX hR)); apply Wr.mk))
         all_goals first
          | exact wrapI (by omega) (by omega)
          | rfl)
      | (have h := of_decide_eq_false (show decide ((i : Int) < (xs.length : Nat)) = false by with_reducible assumption)
         have h2 := hi.2
         rw [List.take_of_length_le (by omega)] at h2
         exact (idxI_none h2).symm))
theorem all_no {α : Type} {p : α → Bool} {l : List α} {x : α} (hx : x ∈ l) (h : p x = false) : l.all p = false := List.all_eq_false.2 ⟨x, hx, by rw [h]; simp⟩
theorem k_all : Known Tryz.prog tau 58 (S2 dNodes dInts fun l ids => okB (ids.all (isNd l))) := by
 refine known2 hmix tau_ok (ctx_cons k_At ctx_nil) (fn := Tryz.f58) (by kernel_rfl) [] (by kernel_rfl) _ _ _ fun l xs hfit => ⟨rfl,
  [(2, invN [4, 5, 6, 7, 8, 9, 10, 11, 12, 13, 14, 15, 16, 17, 18] (fun i => i ≤ xs.length ∧ ∀ x ∈ xs.take i, isNd l x = true) (fun i => withS [(5, .int .i64 i)]) (fun i => xs.length - i))], ?_⟩
 have hlen : xs.length * 8 ≤ 140737488355328 := hfit.2.1
 clear hfit
 refine V2 ?_; constructor <;> (first | (with_reducible exact TT.i) | (intros; (repeat (apply Wk.mk; intro Kv hN hX hR)); apply Wr.mk))
 all_goals first
  | (refine ⟨0, ⟨by omega, by simp⟩, ?_⟩
     refine V1 ?_; constructor <;> (first | (with_reducible exact TT.i) | (intros; (repeat (apply Wk.mk; intro Kv hN hX hR)); apply Wr.mk))
     all_goals rfl)
  | (with_reducible intro i hi
     refine V1 ?_; constructor <;> (first | (with_reducible exact TT.i) | (intros; (repeat (apply Wk.mk; intro Kv hN hX hR)); apply Wr.mk))
     all_goals (try simp only [Int.toNat_natCast, atN_neg] at *)
     all_goals first
      | exact Ob.mk ⟨by omega, of_decide_eq_true aQ⟩
      | (have h := of_decide_eq_true (show decide ((i : Int) < (xs.length : Nat)) = true by with_reducible assumption)
         have hm := getD_mem (d := (0 : Int)) (show i < xs.length by omega)
         first
          | exact (all_no hm (nf aQ)).symm
          | (refine ⟨i + 1, ⟨by omega, all_take_succ (d := 0) (by omega) hi.2 (nt aQ)⟩, by show xs.length - (i + 1) < xs.length - i; omega, ?_⟩
             refine V1 ?_; constructor <;> (first | (with_reducible exact TT.i) | (intros; (repeat (apply Wk.mk; intro Kv hN hX hR)); apply Wr.mk))
             all_goals first
              | exact wrapI (by omega) (by omega)
              | rfl))
      | (have h := of_decide_eq_false (show decide ((i : Int) < (xs.length : Nat)) = false by with_reducible assumption)
         have h2 := hi.2
         rw [List.take_of_length_le (by omega)] at h2
         exact (List.all_eq_true.2 h2).symm))
def packB (ns : List GNode) (m : GMsg) : Bool := (namedM m).all (isNd ns)
theorem packB_eq (ns : List GNode) (m : GMsg) : packB ns m = (isNd ns m.src && (isNd ns m.dst && m.ids.all (isNd ns))) := by
 unfold packB namedM
 rw [List.all_append]
 simp [Bool.and_assoc]
theorem k_packetsMay : Known Tryz.prog tau 61 (S2 dNodes dMsgs fun l ms => okB (ms.all (packB l) && queueB ms)) := by
 refine known2 hmix tau_ok (ctx_cons k_At (ctx_cons k_all (ctx_cons k_refQueueMay ctx_nil))) (fn := Tryz.f61) (by kernel_rfl) [] (by kernel_rfl) _ _ _ fun l xs hfit => ⟨rfl,
  [(2, invN (4 :: 5 :: 6 :: 7 :: 8 :: 9 :: 10 :: 11 :: 12 :: 13 :: 14 :: 15 :: 16 :: 17 :: 18 :: 19 :: 20 :: 21 :: 22 :: 23 :: 24 :: 25 :: 26 :: 27 :: 28 :: 29 :: 30 :: 31 :: 32 :: 33 :: 34 :: 35 :: 36 :: 37 :: 38 :: 39 :: []) (fun i => i ≤ xs.length ∧ ∀ x ∈ xs.take i, packB l x = true) (fun i => withS [(5, .int .i64 i)]) (fun i => xs.length - i))], ?_⟩
 have hlen : xs.length * 104 ≤ 140737488355328 := hfit.2.1.1
 clear hfit
 refine V2 ?_; constructor <;> (first | (with_reducible exact TT.i) | (intros; (repeat (apply Wk.mk; intro Kv hN hX hR)); apply Wr.mk))
 all_goals first
  | (refine ⟨0, ⟨by omega, by simp⟩, ?_⟩
     refine V1 ?_; constructor <;> (first | (with_reducible exact TT.i) | (intros; (repeat (apply Wk.mk; intro Kv hN hX hR)); apply Wr.mk))
     all_goals rfl)
  | (with_reducible intro i hi
     refine V1 ?_; constructor <;> (first | (with_reducible exact TT.i) | (intros; (repeat (apply Wk.mk; intro Kv hN hX hR)); apply Wr.mk))
     all_goals (try simp only [Int.toNat_natCast, atN_neg] at *)
     all_goals first
      | exact Ob.mk ⟨by omega, of_decide_eq_true aQ⟩
      | (have h := of_decide_eq_true (show decide ((i : Int) < (xs.length : Nat)) = true by with_reducible assumption)
         have hm := getD_mem (d := (default : GMsg)) (show i < xs.length by omega)
         have he := packB_eq l (xs.getD i default)
         first
          | (have h1 := nf (show (!isNd l (xs.getD i default).src) = true by with_reducible assumption)
             rw [h1, Bool.false_and] at he
             rw [all_no hm he]
             rfl)
          | (have h1 := nf (show (!isNd l (xs.getD i default).dst) = true by with_reducible assumption)
             rw [h1, Bool.false_and, Bool.and_false] at he
             rw [all_no hm he]
             rfl)
          | (have h1 := nf (show (!(xs.getD i default).ids.all (isNd l)) = true by with_reducible assumption)
             rw [h1, Bool.and_false, Bool.and_false] at he
             rw [all_no hm he]
             rfl)
          | (have h1 := nt (show (!isNd l (xs.getD i default).src) = false by with_reducible assumption)
             have h2 := nt (show (!isNd l (xs.getD i default).dst) = false by with_reducible assumption)
             have h3 := nt (show (!(xs.getD i default).ids.all (isNd l)) = false by with_reducible assumption)
             rw [h1, h2, h3] at he
             refine ⟨i + 1, ⟨by omega, all_take_succ (d := default) (by omega) hi.2 he⟩, by show xs.length - (i + 1) < xs.length - i; omega, ?_⟩
             refine V1 ?_; constructor <;> (first | (with_reducible exact TT.i) | (intros; (repeat (apply Wk.mk; intro Kv hN hX hR)); apply Wr.mk))
             all_goals first
              | exact wrapI (by omega) (by omega)
              | rfl))
      | (have h := of_decide_eq_false (show decide ((i : Int) < (xs.length : Nat)) = false by with_reducible assumption)
         have h2 := hi.2
         rw [List.take_of_length_le (by omega)] at h2
         rw [List.all_eq_true.2 h2]
         rfl))
theorem place_iffC {x : Int} : placeB x = true ↔ 0 ≤ x ∧ x < 256 := by simp [placeB]
theorem lex_iff {p q : GCut} (h1 : cutB p = true) (h2 : cutB q = true) : IntKind.i64.wrap (IntKind.i64.wrap (q.a * 256) + q.b) ≤ IntKind.i64.wrap (IntKind.i64.wrap (p.a * 256) + p.b) ↔ ¬ cutLt p q := by
 unfold cutB at h1 h2
 simp only [Bool.and_eq_true, decide_eq_true_eq] at h1 h2
 have a1 := place_iffC.1 h1.1
 have a2 := place_iffC.1 h1.2.1
 have b1 := place_iffC.1 h2.1
 have b2 := place_iffC.1 h2.2.1
 rw [wrapI (n := q.a * 256) (by omega) (by omega), wrapI (n := p.a * 256) (by omega) (by omega), wrapI (by omega) (by omega), wrapI (by omega) (by omega)]
 unfold cutLt
 omega
set_option maxHeartbeats 8000000 in
theorem k_refCuts : Known Tryz.prog tau 60 (S1 dCuts fun l => okB (cutsB l)) := by
 refine known1 hmix tau_ok (ctx_cons k_refPlace ctx_nil) (fn := Tryz.f60) (by kernel_rfl) [(4, ((0, 0) :: (1, 0) :: (2, 3) :: (3, 4) :: (4, 8) :: (5, 16) :: (6, 32) :: (7, 96) :: (8, 128) :: (9, 128) :: (10, 896) :: (11, 1152) :: (12, 2176) :: (13, 4224) :: (14, 8320) :: (15, 16512) :: (16, 40960) :: (17, 65536) :: (18, 65536) :: (19, 458752) :: (20, 589824) :: (21, 1114112) :: (22, 65536) :: (23, 65536) :: (24, 12648448) :: (25, 16842752) :: (26, 33619968) :: (27, 69271552) :: (28, 134283264) :: (29, 268500992) :: (30, 536870912) :: (31, 1610612736) :: (32, 2684354560) :: (33, 4294967296) :: (34, 4294967296) :: (35, 21474836480) :: (36, 47244640256) :: (37, 73014444032) :: (38, 141733920768) :: (39, 279172874240) :: (40, 4294967296) :: (41, 4294967296) :: (42, 2203318222848) :: (43, 5501853106176) :: (44, 8800387989504) :: (45, 17596481011712) :: (46, 35738422870016) :: (47, 4294967296) :: (48, 4294967296) :: (49, 422216760033280) :: (50, 562954248388608) :: (51, 1125904201809920) :: (52, 2251804108652544) :: (53, 4294967296) :: (54, 4294967296) :: (55, 27021602059190272) :: (56, 36028801313931264) :: (57, 72057598332895232) :: (58, 148618791998193664) :: (59, 288300749190856704) :: (60, 576460757135261696) :: (61, 1152921505143717888) :: []))] (by kernel_rfl) _ _ fun xs hfit => ⟨rfl,
  [(2, invN (2 :: 3 :: 4 :: 5 :: 6 :: 7 :: 8 :: 9 :: 10 :: 11 :: 12 :: 13 :: 14 :: 15 :: 16 :: 17 :: 18 :: 19 :: 20 :: 21 :: 22 :: 23 :: 24 :: 25 :: 26 :: 27 :: 28 :: 29 :: 30 :: 31 :: 32 :: 33 :: 34 :: 35 :: 36 :: 37 :: 38 :: 39 :: 40 :: 41 :: 42 :: 43 :: 44 :: 45 :: 46 :: 47 :: 48 :: 49 :: 50 :: 51 :: 52 :: 53 :: 54 :: 55 :: 56 :: 57 :: 58 :: 59 :: 60 :: 61 :: 62 :: 63 :: 64 :: 65 :: 66 :: 67 :: 68 :: 69 :: 70 :: 71 :: []) (fun i => i ≤ xs.length ∧ (∀ x ∈ xs.take i, cutB x = true) ∧ ∀ t, t + 1 < i → cutLt (xs.getD t default) (xs.getD (t + 1) default)) (fun i => withS [(3, .int .i64 i)]) (fun i => xs.length - i))], ?_⟩
 have hlen : xs.length * 16 ≤ 140737488355328 := hfit.1
 clear hfit
 refine V2 ?_; constructor <;> (first | (with_reducible exact TT.i) | (intros; (repeat (apply Wk.mk; intro Kv hN hX hR)); apply Wr.mk))
 all_goals first
  | (refine ⟨0, ⟨by omega, by simp, by intros; omega⟩, ?_⟩
     refine V1 ?_; constructor <;> (first | (with_reducible exact TT.i) | (intros; (repeat (apply Wk.mk; intro Kv hN hX hR)); apply Wr.mk))
     all_goals rfl)
  | (with_reducible intro i hi
     refine V1 ?_; constructor <;> (first | (with_reducible exact TT.i) | (intros; (repeat (apply Wk.mk; intro Kv hN hX hR)); apply Wr.mk))
     all_goals (try simp only [Int.toNat_natCast, etaCut] at *)
     all_goals first
      | exact Ob.mk ⟨by omega, of_decide_eq_true aQ⟩
      | (have h := of_decide_eq_true (show decide ((i : Int) < (xs.length : Nat)) = true by with_reducible assumption)
         have hmem := getD_mem (l := xs) (i := i) (d := default) (by omega)
         have prev : 0 < i → cutB (xs.getD (i - 1) default) = true := fun h0 => hi.2.1 _ (by
          rw [etaCg (show i - 1 < xs.length by omega), List.mem_take_iff_getElem]
          exact ⟨i - 1, by omega, rfl⟩)
         first
          | (have h0 := of_decide_eq_true (show decide (0 < (i : Int)) = true by with_reducible assumption)
             have hb := back1 (i := i) (by omega) (by omega)
             exact Ob.mk (by rw [hb.2]; omega))
          | (have h0 := of_decide_eq_true (show decide (0 < (i : Int)) = true by with_reducible assumption)
             have hb := back1 (i := i) (by omega) (by omega)
             exact Ob.mk ⟨by rw [hb.2]; omega, by rw [hb.2]; omega⟩)
          | (have hm := nf (show (!placeB (xs.getD i default).a) = true by with_reducible assumption)
             refine (cutsB_no ?_).symm
             rintro ⟨_, _, h3⟩
             have := h3 _ hmem
             unfold cutB at this
             rw [hm] at this
             simp at this)
          | (have hm := nf (show (!placeB (xs.getD i default).b) = true by with_reducible assumption)
             refine (cutsB_no ?_).symm
             rintro ⟨_, _, h3⟩
             have := h3 _ hmem
             unfold cutB at this
             rw [hm] at this
             simp at this)
          | (have hm := of_decide_eq_true (show decide ((xs.getD i default).b ≤ (xs.getD i default).a) = true by with_reducible assumption)
             refine (cutsB_no ?_).symm
             rintro ⟨_, _, h3⟩
             have := h3 _ hmem
             unfold cutB at this
             rw [decide_eq_false (show ¬ (xs.getD i default).a < (xs.getD i default).b by omega)] at this
             simp at this)
          | (have hp : cutB (xs.getD i default) = true := by
              unfold cutB
              rw [nt (show (!placeB (xs.getD i default).a) = false by with_reducible assumption), nt (show (!placeB (xs.getD i default).b) = false by with_reducible assumption)]
              have hm := of_decide_eq_false (show decide ((xs.getD i default).b ≤ (xs.getD i default).a) = false by with_reducible assumption)
              rw [decide_eq_true (show (xs.getD i default).a < (xs.getD i default).b by omega)]
              rfl
             first
              | (have h0 := of_decide_eq_true (show decide (0 < (i : Int)) = true by with_reducible assumption)
                 have hb := back1 (i := i) (by omega) (by omega)
                 (try simp only [hb.1] at *)
                 have hlx := lex_iff (prev (by omega)) hp
                 first
                  | (have hm := of_decide_eq_true (show decide (IntKind.i64.wrap (IntKind.i64.wrap ((xs.getD i default).a * 256) + (xs.getD i default).b) ≤ IntKind.i64.wrap (IntKind.i64.wrap ((xs.getD (i - 1) default).a * 256) + (xs.getD (i - 1) default).b)) = true by with_reducible assumption)
                     refine (cutsB_no ?_).symm
                     rintro ⟨_, h2, _⟩
                     exact hlx.1 hm (h2 (i - 1) i (by omega) (by omega)))
                  | (have hm := of_decide_eq_false (show decide (IntKind.i64.wrap (IntKind.i64.wrap ((xs.getD i default).a * 256) + (xs.getD i default).b) ≤ IntKind.i64.wrap (IntKind.i64.wrap ((xs.getD (i - 1) default).a * 256) + (xs.getD (i - 1) default).b)) = false by with_reducible assumption)
                     have hc : cutLt (xs.getD (i - 1) default) (xs.getD i default) := Classical.byContradiction fun g => hm (hlx.2 g)
                     refine ⟨i + 1, ⟨by omega, all_take_succ (d := default) (by omega) hi.2.1 hp, fun t ht => ?_⟩, by show xs.length - (i + 1) < xs.length - i; omega, ?_⟩
                     · rcases Nat.lt_or_eq_of_le (Nat.le_of_lt_succ ht) with h3 | h3
                       · exact hi.2.2 t h3
                       · rw [show t = i - 1 by omega, show i - 1 + 1 = i by omega]
                         exact hc
                     · refine V1 ?_; constructor <;> (first | (with_reducible exact TT.i) | (intros; (repeat (apply Wk.mk; intro Kv hN hX hR)); apply Wr.mk))
                       all_goals first
                        | exact wrapI (by omega) (by omega)
                        | rfl))
              | (have h0 := of_decide_eq_false (show decide (0 < (i : Int)) = false by with_reducible assumption)
                 refine ⟨i + 1, ⟨by omega, all_take_succ (d := default) (by omega) hi.2.1 hp, fun t ht => by omega⟩, by show xs.length - (i + 1) < xs.length - i; omega, ?_⟩
                 refine V1 ?_; constructor <;> (first | (with_reducible exact TT.i) | (intros; (repeat (apply Wk.mk; intro Kv hN hX hR)); apply Wr.mk))
                 all_goals first
                  | exact wrapI (by omega) (by omega)
                  | rfl)))
      | (have h := of_decide_eq_false (show decide ((i : Int) < (xs.length : Nat)) = false by with_reducible assumption)
         obtain rfl : i = xs.length := by omega
         have h2 := hi.2.1
         rw [List.take_of_length_le (Nat.le_refl _)] at h2
         have h3 := risingCt_adj hi.2.2
         by_cases h4 : xs.length ≤ 32
         · rw [cutsB_iff.2 ⟨h4, h3, h2⟩]
           exact decide_eq_true (by omega)
         · rw [cutsB_no (fun h => h4 h.1)]
           exact decide_eq_false (by omega)))
theorem named_split (w : GWorld) : (namedW w).all (isNd w.nodes) = (w.nodes.all (fun n => (namedN n).all (isNd w.nodes)) && (w.cuts.all (fun c => (namedC c).all (isNd w.nodes)) && w.packets.all (packB w.nodes))) := by
 unfold namedW
 rw [List.all_append, List.all_append, List.all_flatMap, List.all_flatMap, List.all_flatMap, Bool.and_assoc]
 rfl
theorem namedN_all (ns : List GNode) (n : GNode) : (namedN n).all (isNd ns) = ((namesP n.view.peers).all (isNd ns) && n.view.passive.all (isNd ns)) := List.all_append
theorem namedC_all (ns : List GNode) (c : GCut) : (namedC c).all (isNd ns) = (isNd ns c.a && isNd ns c.b) := by simp [namedC]
set_option maxHeartbeats 8000000 in
theorem k_refWorldMay : Known Tryz.prog tau 22 (S1 dWorld fun w => okB (worldB w)) := by
 refine known1 hmix tau_ok (ctx_cons k_refNode (ctx_cons k_refNames (ctx_cons k_all (ctx_cons k_At (ctx_cons k_refCuts (ctx_cons k_packetsMay ctx_nil)))))) (fn := Tryz.f22) (by kernel_rfl) [(5, ((0, 0) :: (1, 1) :: (2, 2) :: (3, 6) :: (4, 8) :: (5, 24) :: (6, 40) :: (7, 64) :: (8, 192) :: (9, 64) :: (10, 576) :: (11, 1344) :: (12, 2112) :: (13, 4160) :: (14, 8256) :: (15, 64) :: (16, 32832) :: (17, 65600) :: (18, 147520) :: (19, 262216) :: (20, 524296) :: (21, 1048640) :: (22, 2097152) :: (23, 6291456) :: (24, 2097152) :: (25, 18874368) :: (26, 35651584) :: (27, 69206016) :: (28, 144703488) :: (29, 270532608) :: (30, 538968064) :: (31, 1342177280) :: (32, 2147483648) :: (33, 6442450944) :: (34, 2147483648) :: (35, 19327352832) :: (36, 36507222016) :: (37, 79456894976) :: (38, 139586437120) :: (39, 277025390592) :: [])), (10, [(0, 0), (1, 1), (2, 0), (3, 4), (4, 0), (5, 24), (6, 32), (7, 64), (8, 130), (9, 256), (10, 768), (11, 1024), (12, 3072), (13, 1024), (14, 9216), (15, 1024), (16, 50176), (17, 66560), (18, 132096), (19, 267264), (20, 525312), (21, 1049600)])] (by kernel_rfl) _ _ fun w hfit => ⟨rfl,
  [(2, invN (2 :: 3 :: 4 :: 6 :: 7 :: 8 :: 9 :: 10 :: 11 :: 12 :: 13 :: 14 :: 15 :: 16 :: 17 :: 18 :: 19 :: 20 :: 21 :: 22 :: 23 :: 24 :: 25 :: 26 :: 27 :: 28 :: 29 :: 30 :: 31 :: 32 :: 33 :: 34 :: 35 :: 36 :: 37 :: 38 :: 39 :: 40 :: 41 :: 42 :: 43 :: 44 :: 45 :: 46 :: 47 :: 48 :: 49 :: 50 :: 51 :: 52 :: 53 :: 54 :: 55 :: 56 :: 57 :: []) (fun i => i ≤ w.nodes.length ∧ (∀ x ∈ w.nodes.take i, nodeB x = true ∧ (namedN x).all (isNd w.nodes) = true) ∧ ∀ t, t + 1 < i → (w.nodes.getD t default).view.id < (w.nodes.getD (t + 1) default).view.id) (fun i => withS [(3, .int .i64 i)]) (fun i => w.nodes.length - i)),
   (8, invN (2 :: 5 :: 58 :: 59 :: 60 :: 61 :: 62 :: 63 :: 64 :: 65 :: 66 :: 67 :: 68 :: 69 :: 70 :: 71 :: 72 :: 73 :: 74 :: 75 :: 76 :: 77 :: 78 :: 79 :: 80 :: 81 :: 82 :: 83 :: 84 :: 85 :: 86 :: []) (fun i => i ≤ w.cuts.length ∧ (∀ x ∈ w.cuts.take i, (namedC x).all (isNd w.nodes) = true)) (fun i => withS [(5, .int .i64 i)]) (fun i => w.cuts.length - i))], ?_⟩
 have hlen : w.nodes.length * 112 ≤ 140737488355328 := hfit.1.1.1
 have hlen2 : w.cuts.length * 16 ≤ 140737488355328 := hfit.1.2.1
 clear hfit
 have no1 : ∀ n ∈ w.nodes, nodeB n = false → worldB w = false := fun n hn h => worldB_no fun g => by
  have := (nodesB_iff.1 g.1).2.2.2 n hn
  rw [h] at this
  simp at this
 have no2 : ∀ n ∈ w.nodes, (namedN n).all (isNd w.nodes) = false → worldB w = false := fun n hn h => worldB_no fun g => by
  have := g.2.2.2
  rw [named_split, all_no hn h] at this
  simp at this
 have no3 : ∀ c ∈ w.cuts, (namedC c).all (isNd w.nodes) = false → worldB w = false := fun c hc h => worldB_no fun g => by
  have := g.2.2.2
  rw [named_split, all_no hc h] at this
  simp at this
 refine V2 ?_; constructor <;> (first | (with_reducible exact TT.i) | (intros; (repeat (apply Wk.mk; intro Kv hN hX hR)); apply Wr.mk))
 all_goals first
  | (refine ⟨0, ⟨by omega, by simp, by intros; omega⟩, ?_⟩
     refine V1 ?_; constructor <;> (first | (with_reducible exact TT.i) | (intros; (repeat (apply Wk.mk; intro Kv hN hX hR)); apply Wr.mk))
     all_goals rfl)
  | (with_reducible intro i hi
     refine V2 ?_; constructor <;> (first | (with_reducible exact TT.i) | (intros; (repeat (apply Wk.mk; intro Kv hN hX hR)); apply Wr.mk))
     all_goals (try simp only [Int.toNat_natCast, etaNd] at *)
     all_goals first
      | exact Ob.mk ⟨by omega, of_decide_eq_true aQ⟩
      | (have h := of_decide_eq_true (show decide ((i : Int) < (w.nodes.length : Nat)) = true by with_reducible assumption)
         have hmem := getD_mem (l := w.nodes) (i := i) (d := default) (by omega)
         have he := namedN_all w.nodes (w.nodes.getD i default)
         first
          | (have h0 := of_decide_eq_true (show decide (0 < (i : Int)) = true by with_reducible assumption)
             have hb := back1 (i := i) (by omega) (by omega)
             exact Ob.mk (by rw [hb.2]; omega))
          | exact (no1 _ hmem (nf aQ)).symm
          | (have h1 := nf (show (!(namesP (w.nodes.getD i default).view.peers).all (isNd w.nodes)) = true by with_reducible assumption)
             rw [h1, Bool.false_and] at he
             exact (no2 _ hmem he).symm)
          | (have h1 := nf (show (!(w.nodes.getD i default).view.passive.all (isNd w.nodes)) = true by with_reducible assumption)
             rw [h1, Bool.and_false] at he
             exact (no2 _ hmem he).symm)
          | (have h0 := of_decide_eq_true (show decide (0 < (i : Int)) = true by with_reducible assumption)
             have hb := back1 (i := i) (by omega) (by omega)
             have hm := of_decide_eq_true (show decide ((w.nodes.getD i default).view.id ≤ (w.nodes.getD (IntKind.i64.wrap ((i : Int) - 1)).toNat default).view.id) = true by with_reducible assumption)
             rw [hb.1] at hm
             refine (worldB_no fun g => ?_).symm
             have := (nodesB_iff.1 g.1).2.2.1 (i - 1) i (by omega) (by omega)
             omega)
          | (have hp := nt (show (!nodeB (w.nodes.getD i default)) = false by with_reducible assumption)
             have h1 := nt (show (!(namesP (w.nodes.getD i default).view.peers).all (isNd w.nodes)) = false by with_reducible assumption)
             have h2 := nt (show (!(w.nodes.getD i default).view.passive.all (isNd w.nodes)) = false by with_reducible assumption)
             rw [h1, h2] at he
             refine ⟨i + 1, ⟨by omega, all_take_succ (d := default) (by omega) hi.2.1 ⟨hp, he⟩, fun t ht => ?_⟩, by show w.nodes.length - (i + 1) < w.nodes.length - i; omega, ?_⟩
             · rcases Nat.lt_or_eq_of_le (Nat.le_of_lt_succ ht) with h3 | h3
               · exact hi.2.2 t h3
               · first
                  | (have h0 := of_decide_eq_false (show decide (0 < (i : Int)) = false by with_reducible assumption)
                     omega)
                  | (have hb := back1 (i := i) (by omega) (by omega)
                     have hm := of_decide_eq_false (show decide ((w.nodes.getD i default).view.id ≤ (w.nodes.getD (IntKind.i64.wrap ((i : Int) - 1)).toNat default).view.id) = false by with_reducible assumption)
                     rw [hb.1] at hm
                     rw [show t = i - 1 by omega, show i - 1 + 1 = i by omega]
                     omega)
             · refine V1 ?_; constructor <;> (first | (with_reducible exact TT.i) | (intros; (repeat (apply Wk.mk; intro Kv hN hX hR)); apply Wr.mk))
               all_goals first
                | exact wrapI (by omega) (by omega)
                | rfl))
      | (refine ⟨0, ⟨by omega, by simp⟩, ?_⟩
         refine V1 ?_; constructor <;> (first | (with_reducible exact TT.i) | (intros; (repeat (apply Wk.mk; intro Kv hN hX hR)); apply Wr.mk))
         all_goals rfl)
      | (have h := of_decide_eq_false (show decide ((i : Int) < (w.nodes.length : Nat)) = false by with_reducible assumption)
         obtain rfl : i = w.nodes.length := by omega
         have n2 := hi.2.1
         rw [List.take_of_length_le (Nat.le_refl _)] at n2
         have n3 := risingN_adj hi.2.2
         have n4 : w.nodes.all (fun n => (namedN n).all (isNd w.nodes)) = true := List.all_eq_true.2 fun n hn => (n2 n hn).2
         with_reducible intro j hj
         refine V1 ?_; constructor <;> (first | (with_reducible exact TT.i) | (intros; (repeat (apply Wk.mk; intro Kv hN hX hR)); apply Wr.mk))
         all_goals (try simp only [Int.toNat_natCast, atN_neg] at *)
         all_goals first
          | exact Ob.mk ⟨by omega, of_decide_eq_true aQ⟩
          | (have h := of_decide_eq_true (show decide ((j : Int) < (w.cuts.length : Nat)) = true by with_reducible assumption)
             have hmem := getD_mem (l := w.cuts) (i := j) (d := default) (by omega)
             have he := namedC_all w.nodes (w.cuts.getD j default)
             first
              | (have h1 := nf (show (!isNd w.nodes (w.cuts.getD j default).a) = true by with_reducible assumption)
                 rw [h1, Bool.false_and] at he
                 exact (no3 _ hmem he).symm)
              | (have h1 := nf (show (!isNd w.nodes (w.cuts.getD j default).b) = true by with_reducible assumption)
                 rw [h1, Bool.and_false] at he
                 exact (no3 _ hmem he).symm)
              | (have h1 := nt (show (!isNd w.nodes (w.cuts.getD j default).a) = false by with_reducible assumption)
                 have h2 := nt (show (!isNd w.nodes (w.cuts.getD j default).b) = false by with_reducible assumption)
                 rw [h1, h2] at he
                 refine ⟨j + 1, ⟨by omega, all_take_succ (d := default) (by omega) hj.2 he⟩, by show w.cuts.length - (j + 1) < w.cuts.length - j; omega, ?_⟩
                 refine V1 ?_; constructor <;> (first | (with_reducible exact TT.i) | (intros; (repeat (apply Wk.mk; intro Kv hN hX hR)); apply Wr.mk))
                 all_goals first
                  | exact wrapI (by omega) (by omega)
                  | rfl))
          | (have h := of_decide_eq_false (show decide ((j : Int) < (w.cuts.length : Nat)) = false by with_reducible assumption)
             have c2 := hj.2
             rw [List.take_of_length_le (by omega)] at c2
             have c4 : w.cuts.all (fun c => (namedC c).all (isNd w.nodes)) = true := List.all_eq_true.2 c2
             have hw : worldB w = (nodesB w.nodes && (cutsB w.cuts && (w.packets.all (packB w.nodes) && queueB w.packets))) := by
              unfold worldB
              rw [named_split, n4, c4, Bool.true_and, Bool.true_and, Bool.and_comm (queueB w.packets)]
             rw [hw]
             first
              | (have q1 := of_decide_eq_false (show decide ((1 : Int) ≤ (w.nodes.length : Nat)) = false by with_reducible assumption)
                 rw [nodesB_no fun g => by have := g.1; omega]
                 rfl)
              | (have q2 := of_decide_eq_false (show decide ((w.nodes.length : Int) ≤ 8) = false by with_reducible assumption)
                 rw [nodesB_no fun g => by have := g.2.1; omega]
                 rfl)
              | (have q1 := of_decide_eq_true (show decide ((1 : Int) ≤ (w.nodes.length : Nat)) = true by with_reducible assumption)
                 have q2 := of_decide_eq_true (show decide ((w.nodes.length : Int) ≤ 8) = true by with_reducible assumption)
                 rw [nodesB_iff.2 ⟨by omega, by omega, n3, fun n hn => (n2 n hn).1⟩]
                 first
                  | (rw [show cutsB w.cuts = true by with_reducible assumption]; rfl)
                  | (rw [show cutsB w.cuts = false by with_reducible assumption]; rfl)))))
end Go.Proofs.YtjjpakdlkjaigaaGreat

/- Plain: a node's turn. -/
namespace Go.Proofs.YtjjpakdlkjaigaaGreat
open Go.RowKit
theorem tickN_no {x : GNode} (h : (x.up && nodeB x) = false) : tickN x = (nodeZ, [], 1900) := by rw [tickN_def, if_neg (by rw [h]; simp)]
theorem nodeB_view {x : GNode} {w : GView} (h : nodeB x = true) (hu : x.up = true) (hw : viewB w = true) : nodeB ⟨x.up, w, x.items, x.log⟩ = true := by
 unfold nodeB at h ⊢
 simp only [Bool.and_eq_true] at h ⊢
 exact ⟨hw, h.2.1, h.2.2.1, h.2.2.2.1, by rw [hu]; rfl⟩
theorem tickN_yes {x : GNode} (h : (x.up && nodeB x) = true) : tickN x = (⟨x.up, (tickV x.view).1, x.items, x.log⟩, helloL (tickV x.view).1 (tickV x.view).2.1 ++ shareL (tickV x.view).1 x.items, 0) ∧ nodeB ⟨x.up, (tickV x.view).1, x.items, x.log⟩ = true ∧ x.up = true ∧ viewB x.view = true := by
 obtain ⟨b1, b2, b3, b4⟩ := up_view h
 have hb := nodeB_view b2 b1 (tick_ok b3).1
 refine ⟨?_, hb, b1, b3⟩
 rw [tickN_def, if_pos h, shareN_def, if_pos]
 show (x.up && nodeB _) = true
 rw [hb, b1]
 rfl
end Go.Proofs.YtjjpakdlkjaigaaGreat

/- Plain: a view's turn: whom it greets; marks. -/
namespace Go.Proofs.YtjjpakdlkjaigaaGreat
open Go.RowKit
theorem place_iff {x : Int} : placeB x = true ↔ 0 ≤ x ∧ x < 256 := by simp [placeB]
theorem rising_ne {l : List Int} (h : Rising l) : l.Pairwise (· ≠ ·) := by
 rw [List.pairwise_iff_getElem]
 intro i j hi hj hij
 have := h i j hij hj
 rw [List.getD_eq_getElem?_getD, List.getD_eq_getElem?_getD, List.getElem?_eq_getElem hi, List.getElem?_eq_getElem hj] at this
 simp only [Option.getD_some] at this
 omega
theorem ts_ok {v : GView} (h : viewB v = true) : (tickV v).2.1.length = v.peers.length + v.passive.length ∧ (tickV v).2.1.length ≤ 16 ∧ (tickV v).2.1.Pairwise (· ≠ ·) ∧ (∀ x ∈ (tickV v).2.1, placeB x = true ∧ x ≠ v.id) ∧ (∀ p ∈ v.peers, p.id ∈ (tickV v).2.1) ∧ ∀ x ∈ v.passive, x ∈ (tickV v).2.1 := by
 obtain ⟨t1, t2, t3, t4, t5, t6, t7, t8⟩ := tick_ok h
 have hw := viewB_iff2.1 t1
 have hp := peers_iff.1 hw.1
 have ha := passB_iff.1 hw.2.1
 have hl : (tickV v).2.1.length = v.peers.length + v.passive.length := by
  rw [t5, List.length_append, namesP_len, ← t3, t7]
 have hv := (viewB_iff.1 h).2.2.1
 rw [t3] at hw
 refine ⟨hl, by omega, ?_, ?_, ?_, ?_⟩
 · rw [t5, List.pairwise_append]
   refine ⟨names_nodup hw.1, rising_ne ha.2.1, fun x hx y hy e => ?_⟩
   subst e
   exact (hw.2.2.2 x hy).2 hx
 · intro x hx
   rw [t5] at hx
   rcases List.mem_append.1 hx with hx | hx
   · obtain ⟨p, h1, rfl⟩ := mem_namesP.1 hx
     rw [← t3] at h1
     have hq := peerB_iff.1 (hp.2.2.2 p h1)
     refine ⟨hq.1, fun e => ?_⟩
     have := hq.2.2.2
     rw [e, t2] at this
     have hid := hp.1
     rw [t2, place_iff] at hid
     rw [farI_eq hid.1 (by omega) hid.1 (by omega)] at this
     omega
   · refine ⟨ha.2.2 x hx, fun e => (hw.2.2.2 x hx).1 (by rw [e, t2])⟩
 · intro p hp
   rw [t5, List.mem_append]
   by_cases hm : p.missed + 1 = 3
   · exact .inr ((t8 _).2 (.inr (mem_lostP.2 ⟨p, hp, hm, rfl⟩)))
   · exact .inl (mem_namesP.2 ⟨_, mem_leftP.2 ⟨p, hp, hm, rfl⟩, rfl⟩)
 · intro x hx
   rw [t5, List.mem_append]
   exact .inr ((t8 _).2 (.inl hx))
end Go.Proofs.YtjjpakdlkjaigaaGreat

/- Plain: whom a node's turn greets. -/
namespace Go.Proofs.YtjjpakdlkjaigaaGreat
open Go.RowKit
theorem hello_may {v : GView} (h : viewB v = true) {t : Int} (ht : t ∈ (tickV v).2.1) : mayB ⟨0, (tickV v).1.id, t, namesP (tickV v).1.peers, 0, ⟨0, ⟨0, 0⟩, 0, false⟩, false⟩ = true := by
 obtain ⟨t1, t2, t3, t4, t5, t6, t7, t8⟩ := tick_ok h
 have hp := peers_iff.1 (viewB_iff2.1 t1).1
 have hh := (ts_ok h).2.2.2.1 t ht
 have hid := hp.1
 have hl : (namesP (tickV v).1.peers).length ≤ 16 := by rw [namesP_len]; exact hp.2.1
 have hal : (namesP (tickV v).1.peers).all placeB = true := by
  rw [List.all_eq_true]
  intro x hx
  obtain ⟨p, h1, rfl⟩ := mem_namesP.1 hx
  exact (peerB_iff.1 (hp.2.2.2 p h1)).1
 unfold mayB bodyB noneB item0B
 simp only [hid, hh.1, hal]
 have hne : ¬ (tickV v).1.id = t := fun e => hh.2 (by rw [← e, t2])
 simp [hne]
 omega
theorem minP_mem {k : Int} : ∀ (l : List Int) (b : Int), minP k b l = b ∨ minP k b l ∈ l
 | [], b => .inl rfl
 | x :: l, b => by
   unfold minP
   rcases minP_mem l (if farI k x < farI k b then x else b) with h | h
   · rw [h]
     split
     · exact .inr List.mem_cons_self
     · exact .inl rfl
   · exact .inr (List.mem_cons_of_mem _ h)
theorem ownV_place {v : GView} {k : Int} (hv : viewB v = true) (hk : placeB k = true) : placeB (ownV v k).1 = true := by
 have hp := peers_iff.1 (viewB_iff2.1 hv).1
 have hl : ∀ x ∈ namesP v.peers ++ [v.id], placeB x = true := by
  intro x hx
  rcases List.mem_append.1 hx with hx | hx
  · obtain ⟨p, h1, rfl⟩ := mem_namesP.1 hx
    exact (peerB_iff.1 (hp.2.2.2 p h1)).1
  · rw [List.mem_singleton.1 hx]
    exact hp.1
 rw [ownV_def, if_pos ⟨hv, hk⟩, ownP_def, if_pos ⟨by
  have := namesP_len v.peers
  simp only [rowMayB, hk, Bool.true_and, Bool.and_eq_true, decide_eq_true_eq, List.all_eq_true]
  exact ⟨by rw [List.length_append, this]; have := hp.2.1; simp; omega, hl⟩, by simp⟩]
 show placeB (minP k _ _) = true
 cases hn : namesP v.peers ++ [v.id] with
 | nil => simp at hn
 | cons x l =>
   rw [hn] at hl
   rcases minP_mem l x with h | h
   · show placeB (minP k x l) = true
     rw [h]
     exact hl x List.mem_cons_self
   · exact hl _ (List.mem_cons_of_mem _ h)
theorem toV_place {v : GView} {k : Int} (hv : viewB v = true) (hk : placeB k = true) : placeB (toV v k) = true := by
 unfold toV
 split
 · have hp := peers_iff.1 (viewB_iff2.1 hv).1
   rw [succV_def, if_pos hv]
   split
   · exact hp.1
   · rename_i hn
     show placeB ((namesP v.peers).getD 0 0) = true
     cases hq : v.peers with
     | nil => rw [hq] at hn; simp at hn
     | cons q l =>
       show placeB q.id = true
       exact (peerB_iff.1 (hp.2.2.2 q (by rw [hq]; exact List.mem_cons_self))).1
 · exact ownV_place hv hk
theorem share_all {v : GView} {l : List GItem} (hv : viewB v = true) (hl : ∀ i ∈ l, itemB i = true) : ∀ m ∈ shareL v l, m.kind = 1 ∧ m.src = v.id ∧ mayB m = true := by
 induction l with
 | nil => intro m hm; simp [shareL] at hm
 | cons i l ih =>
   intro m hm
   unfold shareL at hm
   rcases List.mem_append.1 hm with hm | hm
   · split at hm
     · simp at hm
     · rename_i hne
       rw [List.mem_singleton.1 hm]
       have hi := hl i List.mem_cons_self
       have hk : placeB i.key = true := by
        unfold itemB at hi
        simp only [Bool.and_eq_true] at hi
        exact hi.1
       have hid := (peers_iff.1 (viewB_iff2.1 hv).1).1
       refine ⟨rfl, rfl, ?_⟩
       unfold mayB bodyB noneB item0B
       simp [hid, toV_place hv hk, hi, Ne.symm hne]
   · exact ih (fun j hj => hl j (List.mem_cons_of_mem _ hj)) m hm
theorem store_items {l : List GItem} (h : storeB l = true) : ∀ i ∈ l, itemB i = true := by
 unfold storeB at h
 simp only [Bool.and_eq_true, List.all_eq_true] at h
 exact h.2.2
end Go.Proofs.YtjjpakdlkjaigaaGreat

/- Plain law: what comes to a node, what it does: it may be. -/
namespace Go.Proofs.YtjjpakdlkjaigaaGreat
open Go.RowKit
theorem bestI_ok {a b : GItem} (h1 : itemB a = true) (h2 : itemB b = true) (h3 : a.key = b.key) : itemB (bestI a b).1 = true ∧ (bestI a b).1.key = a.key := by
 rw [bestI_yes h1 h2 h3]
 split
 · exact ⟨h1, rfl⟩
 · exact ⟨h2, h3.symm⟩
theorem putI_ok {l : List GItem} {x : GItem} (hs : storeB l = true) (hx : itemB x = true) (h0 : (putI l x).2 = 0) : storeB (putI l x).1 = true := by
 have hp := storeB_iff.1 hs
 cases hh : hasK l x.key with
 | true =>
   have hc := cntK_at hp.2.1 hh
   rw [putI_has hs hx hh]
   dsimp only
   have hm := hp.2.2 _ (getD_mem (d := default) hc.1)
   have hb := bestI_ok hm hx hc.2
   refine storeB_iff.2 ⟨by simpa using hp.1, ?_, fun y hy => ?_⟩
   · rw [risingK_iff]
     have h1 : (l.map fun i => i.key).Pairwise (· < ·) := List.pairwise_map.2 (risingK_iff.1 hp.2.1)
     have e : (l.set (l.countP fun i => decide (i.key < x.key)) (bestI (l.getD (l.countP fun i => decide (i.key < x.key)) default) x).1).map (fun i => i.key) = l.map fun i => i.key := by
      apply List.ext_getElem (by simp)
      intro j h1 h2
      simp only [List.getElem_map, List.getElem_set]
      split
      · rename_i h; rw [hb.2]; subst h; simp [List.getD_eq_getElem?_getD, hc.1]
      · rfl
     rw [← e] at h1
     exact (List.pairwise_map (R := fun a b : Int => a < b) (f := fun i : GItem => i.key)).1 h1
   · rcases List.mem_or_eq_of_mem_set hy with h1 | h1
     · exact hp.2.2 y h1
     · rw [h1]; exact hb.1
 | false =>
   by_cases h16 : l.length = 16
   · rw [putI_full hs hx hh h16] at h0
     simp at h0
   · rw [putI_yes hs hx hh h16]
     dsimp only
     obtain ⟨L, hL⟩ : ∃ L, L = l.take (l.countP fun i => decide (i.key < x.key)) ++ [x] ++ l.drop (l.countP fun i => decide (i.key < x.key)) := ⟨_, rfl⟩
     have hmem : ∀ p, p ∈ L ↔ p = x ∨ p ∈ l := fun p => by rw [hL]; exact mem_insK
     have hlen : L.length = l.length + 1 := by rw [hL]; exact len_insK
     have hris : L.Pairwise fun p q => p.key < q.key := by
      have hne : ∀ y ∈ l, (fun i : GItem => i.key) y ≠ (fun i : GItem => i.key) x := by
       intro y hy e
       have : hasK l x.key = true := List.any_eq_true.2 ⟨y, hy, decide_eq_true e⟩
       rw [this] at hh
       simp at hh
      have h2 := ins_risingK (fun i : GItem => i.key) (x := x) (risingK_iff.1 hp.2.1) hne
      (try dsimp only at h2)
      rw [hL]
      exact h2
     rw [← hL]
     clear hL
     refine storeB_iff.2 ⟨by have := hp.1; omega, risingK_iff.2 hris, fun y hy => ?_⟩
     rcases (hmem y).1 hy with h1 | h1
     · rw [h1]; exact hx
     · exact hp.2.2 y h1
theorem getS_ok {l : List GItem} {k : Int} (h : (getS l k).2 = true) : itemB (getS l k).1 = true ∧ (getS l k).1.key = k := by
 rw [getS_def] at h ⊢
 split at h
 · rename_i h1
   rw [if_pos h1]
   have hp := storeB_iff.1 h1.1
   have hc := cntK_at hp.2.1 h1.2
   exact ⟨hp.2.2 _ (getD_mem (d := default) hc.1), hc.2⟩
 · simp at h
theorem getS_none {l : List GItem} {k : Int} (h : (getS l k).2 = false) : (getS l k).1 = iZ := by
 rw [getS_def] at h ⊢
 split at h
 · simp at h
 · rename_i h1
   rw [if_neg h1]
theorem nodeB_iff {x : GNode} : nodeB x = true ↔ viewB x.view = true ∧ storeB x.items = true ∧ x.log.length ≤ 64 ∧ (∀ t ∈ x.log, toldB t = true) ∧ (x.up = true ∨ x.view.peers.length + x.view.passive.length + x.items.length + x.log.length = 0) := by
 simp only [nodeB, Bool.and_eq_true, decide_eq_true_eq, List.all_eq_true, Bool.or_eq_true]
theorem up_iff {x : GNode} : (x.up && nodeB x) = true ↔ x.up = true ∧ nodeB x = true := by simp
theorem toldT_ok {k : Int} {i : GItem} {h : Bool} (hk : placeB k = true) (hi : h = true → itemB i = true) : toldB (toldT k i h) = true := by
 unfold toldT
 split
 · rename_i h1
   simp only [Bool.and_eq_true] at h1
   have := hi h1.1
   simp only [itemB, Bool.and_eq_true] at this
   simp [toldB, hk, this.2.1]
 · have : placeB 0 = true := rfl
   simp [toldB, hk, this]
theorem note_ok {x : GNode} {k : Int} {i : GItem} {h : Bool} (hx : (x.up && nodeB x) = true) (hk : placeB k = true) (hi : h = true → itemB i = true) : nodeB (noteN x k i h) = true := by
 obtain ⟨hu, hb⟩ := up_iff.1 hx
 obtain ⟨a1, a2, a3, a4, _⟩ := nodeB_iff.1 hb
 refine nodeB_iff.2 ⟨a1, a2, ?_, fun t ht => ?_, .inl hu⟩
 · show (noteL x k i h).length ≤ 64
   unfold noteL
   simp
   omega
 · have ht : t ∈ noteL x k i h := ht
   unfold noteL at ht
   rcases List.mem_append.1 (List.mem_of_mem_drop ht) with h1 | h1
   · exact a4 t h1
   · rw [List.mem_singleton.1 h1]
     exact toldT_ok hk hi
theorem items_ok {x : GNode} {l : List GItem} (hx : (x.up && nodeB x) = true) (hl : storeB l = true) : nodeB ⟨x.up, x.view, l, x.log⟩ = true := by
 obtain ⟨hu, hb⟩ := up_iff.1 hx
 obtain ⟨a1, a2, a3, a4, _⟩ := nodeB_iff.1 hb
 exact nodeB_iff.2 ⟨a1, hl, a3, a4, .inl hu⟩
theorem take_facts {x : GNode} {i : GItem} (hx : (x.up && nodeB x) = true) (hi : itemB i = true) : (takeN x i).2 = 0 ∧ nodeB (takeN x i).1 = true ∧ (takeN x i).1.view = x.view ∧ (takeN x i).1.up = true := by
 obtain ⟨hu, hb⟩ := up_iff.1 hx
 by_cases h : (putI x.items i).2 = 0
 · rw [takeN_put hx hi h]
   exact ⟨rfl, items_ok hx (putI_ok (nodeB_iff.1 hb).2.1 hi h), rfl, hu⟩
 · rw [takeN_not hx hi h]
   exact ⟨rfl, hb, rfl, hu⟩
theorem wrote_facts {x : GNode} {i : GItem} (hx : (x.up && nodeB x) = true) (hk : placeB i.key = true) (hv : placeB i.value = true) (hg : i.gone = true → i.value = 0) (h0 : (wroteN x i).2 = 0) : nodeB (wroteN x i).1 = true ∧ (wroteN x i).1.view = x.view ∧ (wroteN x i).1.up = true := by
 obtain ⟨hu, hb⟩ := up_iff.1 hx
 rw [wroteN_def, if_pos ⟨hx, hk, hv⟩] at h0 ⊢
 split at h0
 · simp at h0
 · rename_i h1
   rw [if_neg h1]
   split at h0
   · rename_i h2
     rw [if_pos h2]
     have hc := getS_count x.items i.key
     have hid := (peers_iff.1 (viewB_iff2.1 (nodeB_iff.1 hb).1).1).1
     have hi : itemB (itW x i) = true := by
      unfold itW itemB verB
      simp only [hk, hv, hid, Bool.true_and, Bool.and_true, Bool.and_eq_true, decide_eq_true_eq]
      refine ⟨⟨by omega, by omega⟩, ?_⟩
      cases h3 : i.gone with
      | false => rfl
      | true => rw [hg h3]; rfl
     exact ⟨items_ok hx (putI_ok (nodeB_iff.1 hb).2.1 hi h2), rfl, hu⟩
   · simp at h0
theorem leftP_names {l : List GPeer} {y : Int} (h : y ∈ namesP (leftP l)) : y ∈ namesP l := by
 obtain ⟨q, hq, rfl⟩ := mem_namesP.1 h
 obtain ⟨p, h3, _, rfl⟩ := mem_leftP.1 hq
 exact mem_namesP.2 ⟨p, h3, rfl⟩
theorem lostP_names {l : List GPeer} {y : Int} (h : y ∈ lostP l) : y ∈ namesP l := by
 obtain ⟨p, h1, _, rfl⟩ := mem_lostP.1 h
 exact mem_namesP.2 ⟨p, h1, rfl⟩
theorem ownV_mem {v : GView} {k : Int} (hv : viewB v = true) (hk : placeB k = true) : (ownV v k).1 = v.id ∨ (ownV v k).1 ∈ namesP v.peers := by
 have hp := peers_iff.1 (viewB_iff2.1 hv).1
 have hl : ∀ x ∈ namesP v.peers ++ [v.id], placeB x = true := by
  intro x hx
  rcases List.mem_append.1 hx with hx | hx
  · obtain ⟨p, h1, rfl⟩ := mem_namesP.1 hx
    exact (peerB_iff.1 (hp.2.2.2 p h1)).1
  · rw [List.mem_singleton.1 hx]
    exact hp.1
 rw [ownV_def, if_pos ⟨hv, hk⟩, ownP_def, if_pos ⟨by
  have := namesP_len v.peers
  simp only [rowMayB, hk, Bool.true_and, Bool.and_eq_true, decide_eq_true_eq, List.all_eq_true]
  exact ⟨by rw [List.length_append, this]; have := hp.2.1; simp; omega, hl⟩, by simp⟩]
 have hmem : minP k ((namesP v.peers ++ [v.id]).getD 0 0) ((namesP v.peers ++ [v.id]).drop 1) ∈ namesP v.peers ++ [v.id] := by
  cases hn : namesP v.peers ++ [v.id] with
  | nil => simp at hn
  | cons x l =>
    rcases minP_mem l x with h | h
    · show minP k x l ∈ x :: l
      rw [h]
      exact List.mem_cons_self
    · exact List.mem_cons_of_mem _ h
 rcases List.mem_append.1 hmem with h | h
 · exact .inr h
 · exact .inl (List.mem_singleton.1 h)
theorem toV_mem {v : GView} {k : Int} (hv : viewB v = true) (hk : placeB k = true) : toV v k = v.id ∨ toV v k ∈ namesP v.peers := by
 unfold toV
 split
 · rw [succV_def, if_pos hv]
   split
   · exact .inl rfl
   · rename_i hn
     right
     show (namesP v.peers).getD 0 0 ∈ namesP v.peers
     exact getD_mem (by rw [namesP_len]; omega)
 · exact ownV_mem hv hk
theorem share_mem {v : GView} {l : List GItem} (hv : viewB v = true) (hl : ∀ i ∈ l, itemB i = true) : ∀ m ∈ shareL v l, m.src = v.id ∧ m.dst ∈ namesP v.peers ∧ m.ids = [] := by
 induction l with
 | nil => intro m hm; simp [shareL] at hm
 | cons i l ih =>
   intro m hm
   unfold shareL at hm
   rcases List.mem_append.1 hm with hm | hm
   · split at hm
     · simp at hm
     · rename_i hne
       rw [List.mem_singleton.1 hm]
       have hi := hl i List.mem_cons_self
       have hk : placeB i.key = true := by
        unfold itemB at hi
        simp only [Bool.and_eq_true] at hi
        exact hi.1
       refine ⟨rfl, ?_, rfl⟩
       rcases toV_mem hv hk with h | h
       · exact absurd h hne
       · exact h
   · exact ih (fun j hj => hl j (List.mem_cons_of_mem _ hj)) m hm
theorem tick_facts {x : GNode} (hx : (x.up && nodeB x) = true) : (tickN x).2.2 = 0 ∧ nodeB (tickN x).1 = true ∧ (tickN x).1.view.id = x.view.id ∧ (tickN x).1.up = true ∧ (∀ y ∈ namedN (tickN x).1, y ∈ namedN x) ∧ (tickN x).2.1.length ≤ 32 ∧
  ∀ m ∈ (tickN x).2.1, mayB m = true ∧ ∀ y ∈ namedM m, y = x.view.id ∨ y ∈ namedN x := by
 obtain ⟨e, hb, hu, hv⟩ := tickN_yes hx
 have hst := store_items (up_view hx).2.2.2
 obtain ⟨t1, t2, t3, t4, t5, t6, t7, t8⟩ := tick_ok hv
 have hs16 := (storeB_iff.1 (up_view hx).2.2.2).1
 have hv16 := (viewB_iff2.1 t1).2.2.1
 have hn : ∀ y ∈ namesP (tickV x.view).1.peers ++ (tickV x.view).1.passive, y ∈ namedN x := by
  intro y hy
  rcases List.mem_append.1 hy with h | h
  · rw [t3] at h
    exact List.mem_append_left _ (leftP_names h)
  · rcases (t8 y).1 h with h | h
    · exact List.mem_append_right _ h
    · exact List.mem_append_left _ (lostP_names h)
 rw [e]
 refine ⟨rfl, hb, t2, hu, hn, ?_, fun m hm => ?_⟩
 · show (helloL _ _ ++ shareL _ _).length ≤ 32
   have h1 := shareL_len (tickV x.view).1 x.items
   rw [List.length_append, helloL_len, t5, List.length_append, namesP_len, ← t3]
   omega
 · rcases List.mem_append.1 hm with hm | hm
   · obtain ⟨t, ht, rfl⟩ := List.mem_map.1 hm
     refine ⟨hello_may hv ht, fun y hy => ?_⟩
     rcases List.mem_append.1 hy with h | h
     · rcases List.mem_cons.1 h with h | h
       · exact .inl (h.trans t2)
       · rw [List.mem_singleton.1 h]
         right
         apply hn
         rw [t5] at ht
         rw [t3]
         exact ht
     · exact .inr (hn y (List.mem_append_left _ h))
   · obtain ⟨s1, s2, s3⟩ := share_mem t1 hst m hm
     refine ⟨(share_all t1 hst m hm).2.2, fun y hy => ?_⟩
     rcases List.mem_append.1 hy with h | h
     · rcases List.mem_cons.1 h with h | h
       · exact .inl (h.trans (s1.trans t2))
       · rw [List.mem_singleton.1 h]
         exact .inr (hn _ (List.mem_append_left _ s2))
     · rw [s3] at h
       simp at h
theorem may_src {m : GMsg} (h : mayB m = true) : placeB m.src = true ∧ placeB m.dst = true ∧ m.src ≠ m.dst := by
 simp only [mayB, Bool.and_eq_true] at h
 exact ⟨h.1, h.2.1, by have := h.2.2.1; simpa using this⟩
theorem may_0 {m : GMsg} (h : mayB m = true) (hk : m.kind = 0) : m.ids.length ≤ 16 ∧ m.ids.all placeB = true := by
 simp only [mayB, Bool.and_eq_true, bodyB, if_pos hk] at h
 have := h.2.2.2.2
 simp only [decide_eq_true_eq] at this
 exact ⟨by omega, this.2⟩
theorem may_1 {m : GMsg} (h : mayB m = true) (hk : m.kind = 1) : itemB m.item = true := by
 simp only [mayB, Bool.and_eq_true, bodyB, if_neg (show ¬ m.kind = 0 by omega), if_pos hk] at h
 exact h.2.2.2.2
theorem may_2 {m : GMsg} (h : mayB m = true) (hk : m.kind = 2) : placeB m.key = true := by
 simp only [mayB, Bool.and_eq_true, bodyB, if_neg (show ¬ m.kind = 0 by omega), if_neg (show ¬ m.kind = 1 by omega), if_pos hk] at h
 exact h.2.2.2.2
theorem may_3 {m : GMsg} (h : mayB m = true) (hk : m.kind = 3) : placeB m.key = true ∧ (m.has = true → itemB m.item = true) := by
 simp only [mayB, Bool.and_eq_true, bodyB, if_neg (show ¬ m.kind = 0 by omega), if_neg (show ¬ m.kind = 1 by omega), if_neg (show ¬ m.kind = 2 by omega), if_pos hk] at h
 refine ⟨h.2.2.2.2.1, fun hh => ?_⟩
 have := h.2.2.2.2.2
 rw [hh] at this
 simp only [Bool.not_true, Bool.false_and, Bool.true_and, Bool.false_or, Bool.and_eq_true] at this
 exact this.1
theorem tell_may {x : GNode} {m : GMsg} (hi : placeB x.view.id = true) (hs : placeB m.src = true) (hne : x.view.id ≠ m.src) (hk : placeB m.key = true) : mayB (tellM x m) = true := by
 unfold tellM mayB bodyB
 cases h : (getS x.items m.key).2 with
 | true =>
   have := getS_ok h
   simp [hi, hs, hne, hk, this.1, this.2]
 | false =>
   rw [getS_none h]
   simp [hi, hs, hne, hk, item0B, iZ]
theorem handle_facts {x : GNode} {m : GMsg} (hx : (x.up && nodeB x) = true) (hm : mayB m = true) (hd : m.dst = x.view.id) : (handleN x m).2.2 = 0 ∧ nodeB (handleN x m).1 = true ∧ (handleN x m).1.view.id = x.view.id ∧ (handleN x m).1.up = true ∧ (∀ y ∈ namedN (handleN x m).1, y = m.src ∨ y ∈ m.ids ∨ y ∈ namedN x) ∧ (handleN x m).2.1.length ≤ 1 ∧
  ∀ m' ∈ (handleN x m).2.1, mayB m' = true ∧ ∀ y ∈ namedM m', y = x.view.id ∨ y = m.src := by
 obtain ⟨hu, hb⟩ := up_iff.1 hx
 have hv := (nodeB_iff.1 hb).1
 obtain ⟨p1, p2, p3⟩ := may_src hm
 have hid : placeB x.view.id = true := (peers_iff.1 (viewB_iff2.1 hv).1).1
 rcases mayB_kind hm with hk | hk | hk | hk
 · obtain ⟨h16, hal⟩ := may_0 hm hk
   have hne : m.src ≠ x.view.id := fun e => p3 (e.trans hd.symm)
   have k1 := known_ok hv p1 hne
   have k2 := foldK_ok (l := m.ids) k1.1 (List.all_eq_true.1 hal)
   rw [handle_0 hx hm hd hk, helloV_yes hv p1 hne h16 hal]
   refine ⟨rfl, nodeB_view hb hu k2.1, k2.2.1.trans k1.2.1, hu, fun y hy => ?_, by simp, fun m' h => by simp at h⟩
   rcases k2.2.2 y hy with h | h
   · exact .inr (.inl h)
   · rcases k1.2.2 y h with h | h
     · exact .inl h
     · exact .inr (.inr h)
 · have t := take_facts hx (may_1 hm hk)
   rw [handle_1 hx hm hd hk]
   refine ⟨rfl, t.2.1, by rw [t.2.2.1], t.2.2.2, fun y hy => .inr (.inr ?_), by simp, fun m' h => by simp at h⟩
   have hy : y ∈ namedN (takeN x m.item).1 := hy
   unfold namedN at hy ⊢
   rw [t.2.2.1] at hy
   exact hy
 · have hto : toB x m 2 = true := by simp only [toB, hx, hm, hk, hd]; rfl
   rw [handle_2 hx hm hd hk]
   refine ⟨rfl, hb, rfl, hu, fun y hy => .inr (.inr hy), ?_, fun m' h => ?_⟩
   · show (answerN x m).1.length ≤ 1
     rw [answerN_def, if_pos hto]
     simp
   · have h : m' ∈ (answerN x m).1 := h
     rw [answerN_def, if_pos hto] at h
     rw [List.mem_singleton.1 h]
     refine ⟨tell_may hid p1 (fun e => p3 (e.symm.trans hd.symm)) (may_2 hm hk), fun y hy => ?_⟩
     simp [namedM, tellM] at hy
     exact hy
 · have hto : toB x m 3 = true := by simp only [toB, hx, hm, hk, hd]; rfl
   have h3 := may_3 hm hk
   rw [handle_3 hx hm hd hk, toldN_def, if_pos hto]
   exact ⟨rfl, note_ok hx h3.1 h3.2, rfl, hu, fun y hy => .inr (.inr hy), by simp, fun m' h => by simp at h⟩
theorem ask_facts {x : GNode} {k : Int} (hx : (x.up && nodeB x) = true) (hk : placeB k = true) : (askN x k).2.2 = 0 ∧ nodeB (askN x k).1 = true ∧ (askN x k).1.view = x.view ∧ (askN x k).1.up = true ∧ (askN x k).2.1.length ≤ 1 ∧ ∀ m ∈ (askN x k).2.1, mayB m = true ∧ ∀ y ∈ namedM m, y = x.view.id ∨ y ∈ namedN x := by
 obtain ⟨hu, hb⟩ := up_iff.1 hx
 have hv := (nodeB_iff.1 hb).1
 have hid : placeB x.view.id = true := (peers_iff.1 (viewB_iff2.1 hv).1).1
 rw [askN_def, if_pos ⟨hx, hk⟩]
 split
 · exact ⟨rfl, note_ok hx hk fun h => (getS_ok h).1, rfl, hu, by simp, fun m h => by simp at h⟩
 · rename_i hne
   refine ⟨rfl, hb, rfl, hu, by simp, fun m h => ?_⟩
   rw [List.mem_singleton.1 h]
   have hpl := ownV_place hv hk
   refine ⟨?_, fun y hy => ?_⟩
   · unfold mayB bodyB noneB item0B iZ
     simp [hid, hpl, hk, Ne.symm hne]
   · simp [namedM] at hy
     rcases hy with h | h
     · exact .inl h
     · rcases ownV_mem hv hk with h1 | h1
       · exact .inl (h.trans h1)
       · exact .inr (h ▸ List.mem_append_left _ h1)
end Go.Proofs.YtjjpakdlkjaigaaGreat
