/- A part of the proof of ActOne: H24c. -/
import Derived.Test.YtjjpakdlkjaigaaGreatMB12
set_option linter.all false
set_option linter.unusedVariables false
set_option linter.unusedSimpArgs false
set_option linter.unusedSectionVars false
/- Chapter 24: an act turns one node at most. -/
namespace Go.Proofs.YtjjpakdlkjaigaaGreat
open Go.RowKit
set_option maxRecDepth 20000
noncomputable def turnN (a b : List GNode) (i : Nat) : Nat := Classical.choose (seal_ex ((List.range i).countP fun t => !decide (a.getD t default = b.getD t default)))
theorem turnN_def (a b : List GNode) (i : Nat) : turnN a b i = (List.range i).countP fun t => !decide (a.getD t default = b.getD t default) := Classical.choose_spec (seal_ex _)
theorem turnN_zero (a b : List GNode) : turnN a b 0 = 0 := by rw [turnN_def]; rfl
theorem turnN_succ (a b : List GNode) (i : Nat) : turnN a b (i + 1) = turnN a b i + (if a.getD i default = b.getD i default then 0 else 1) := by
 rw [turnN_def, turnN_def, List.range_succ, List.countP_append]
 congr 1
 by_cases h : a.getD i default = b.getD i default
 · rw [if_pos h]; simp only [List.countP_cons, List.countP_nil, decide_eq_true h]; rfl
 · rw [if_neg h]; simp only [List.countP_cons, List.countP_nil, decide_eq_false h]; rfl
theorem turnN_same (a : List GNode) (i : Nat) : turnN a a i = 0 := by
 induction i with
 | zero => exact turnN_zero a a
 | succ i ih => rw [turnN_succ, ih, if_pos rfl]
theorem turnN_set (b : List GNode) (k : Nat) (x : GNode) (i : Nat) : turnN (b.set k x) b i ≤ if k < i then 1 else 0 := by
 induction i with
 | zero => rw [turnN_zero]; exact Nat.zero_le _
 | succ i ih =>
   rw [turnN_succ]
   by_cases hk : k = i
   · subst hk
     rw [if_neg (Nat.lt_irrefl _)] at ih
     rw [if_pos (Nat.lt_succ_self _)]
     split <;> omega
   · have e : (b.set k x).getD i default = b.getD i default := by
      rw [List.getD_eq_getElem?_getD, List.getD_eq_getElem?_getD, List.getElem?_set_ne hk]
     rw [if_pos e]
     split at ih <;> split <;> omega
theorem turnN_le (a b : List GNode) (i : Nat) : turnN a b i ≤ i := by
 induction i with
 | zero => rw [turnN_zero]; exact Nat.le_refl _
 | succ i ih => rw [turnN_succ]; split <;> omega
theorem setW_nodes (w : GWorld) (id : Int) (r : GNode × Int) : ((setW w id r).nodes = w.nodes ∨ ∃ k x, (setW w id r).nodes = w.nodes.set k x) ∧ (setW w id r).cuts = w.cuts := by
 unfold setW
 split
 · exact ⟨.inr ⟨_, _, rfl⟩, rfl⟩
 · exact ⟨.inl rfl, rfl⟩
theorem deliv_nodes (w : GWorld) (p : Nat) : ((delivW w p).nodes = w.nodes ∨ ∃ k x, (delivW w p).nodes = w.nodes.set k x) ∧ (delivW w p).cuts = w.cuts := by
 unfold delivW
 split
 · exact ⟨.inl rfl, rfl⟩
 · split
   · exact ⟨.inr ⟨_, _, rfl⟩, rfl⟩
   · exact ⟨.inl rfl, rfl⟩
theorem act_nodes {w : GWorld} {a : GAct} (ha : actB w a = true) : ((actW w a).nodes = w.nodes ∨ ∃ k x, (actW w a).nodes = w.nodes.set k x) ∧ (¬ (a.kind = 4 ∨ a.kind = 5) → (actW w a).cuts = w.cuts) ∧ ((a.kind = 4 ∨ a.kind = 5) → (actW w a).nodes = w.nodes ∧ (actW w a).packets = w.packets) := by
 have key : ∀ W : GWorld, ((W.nodes = w.nodes ∨ ∃ k x, W.nodes = w.nodes.set k x) ∧ W.cuts = w.cuts) → ¬ (a.kind = 4 ∨ a.kind = 5) → (W.nodes = w.nodes ∨ ∃ k x, W.nodes = w.nodes.set k x) ∧ (¬ (a.kind = 4 ∨ a.kind = 5) → W.cuts = w.cuts) ∧ ((a.kind = 4 ∨ a.kind = 5) → W.nodes = w.nodes ∧ W.packets = w.packets) :=
  fun W h hk => ⟨h.1, fun _ => h.2, fun h => absurd h hk⟩
 have same : (w.nodes = w.nodes ∨ ∃ k x, w.nodes = w.nodes.set k x) ∧ w.cuts = w.cuts := ⟨.inl rfl, rfl⟩
 rcases kinds (act_kind ha) with k | k | k | k | k | k | k | k | k | k | k
 · rw [actW_0 k]
   refine key _ ?_ (by omega)
   unfold tickW
   split
   · exact ⟨.inr ⟨_, _, rfl⟩, rfl⟩
   · exact same
 · rw [actW_1 k]
   refine key _ ?_ (by omega)
   split
   · exact same
   · exact deliv_nodes _ _
 · rw [actW_2 k]
   refine key _ ?_ (by omega)
   split
   · exact same
   · exact same
 · rw [actW_3 k]
   refine key _ ?_ (by omega)
   split
   · exact same
   · exact same
 · rw [actW_4 k]
   refine ⟨?_, fun h => absurd (.inl k) h, fun _ => ?_⟩
   · split <;> exact .inl rfl
   · split <;> exact ⟨rfl, rfl⟩
 · rw [actW_5 k]
   exact ⟨.inl rfl, fun h => absurd (.inr k) h, fun _ => ⟨rfl, rfl⟩⟩
 · rw [actW_6 k]
   exact key _ ⟨.inr ⟨_, _, rfl⟩, rfl⟩ (by omega)
 · rw [actW_7 k]
   refine key _ ?_ (by omega)
   split
   · exact same
   · exact ⟨.inr ⟨_, _, rfl⟩, rfl⟩
 · rw [actW_8 k]
   refine key _ ?_ (by omega)
   split
   · exact setW_nodes _ _ _
   · exact same
 · rw [actW_9 k]
   refine key _ ?_ (by omega)
   split
   · exact setW_nodes _ _ _
   · exact same
 · rw [actW_10 k]
   refine key _ ?_ (by omega)
   split
   · exact ⟨.inr ⟨_, _, rfl⟩, rfl⟩
   · exact same
theorem do_bad {w : GWorld} {a : GAct} (h : ¬ (doW w a).2 = 0) : doW w a = (worldZ, 2400) := by
 rw [doW_def] at h ⊢
 split
 · rename_i h2
   rw [if_pos h2] at h
   exact absurd rfl h
 · rfl
theorem do_good {w : GWorld} {a : GAct} (h : (doW w a).2 = 0) : worldB w = true ∧ worldB (doW w a).1 = true ∧ (doW w a).1.nodes.length = w.nodes.length ∧ (∀ i, turnN (doW w a).1.nodes w.nodes i ≤ 1) ∧ (¬ (a.kind = 4 ∨ a.kind = 5) → (doW w a).1.cuts = w.cuts) ∧
  ((a.kind = 4 ∨ a.kind = 5) → (∀ i, turnN (doW w a).1.nodes w.nodes i = 0) ∧ (doW w a).1.packets = w.packets) := by
 by_cases hq : worldB w = true ∧ actB w a = true
 · have e := doW_yes hq.1 hq.2
   have hm := step_may hq.1 hq.2
   obtain ⟨h1, h2, h3⟩ := act_nodes hq.2
   rw [e]
   refine ⟨hq.1, hm, ?_, fun i => ?_, h2, fun hk => ⟨fun i => ?_, (h3 hk).2⟩⟩
   · show (actW w a).nodes.length = _
     rcases h1 with h1 | ⟨k, x, h1⟩ <;> rw [h1]
     simp
   · show turnN (actW w a).nodes _ _ ≤ 1
     rcases h1 with h1 | ⟨k, x, h1⟩ <;> rw [h1]
     · rw [turnN_same]; omega
     · have := turnN_set w.nodes k x i
       split at this <;> omega
   · show turnN (actW w a).nodes _ _ = 0
     rw [(h3 hk).1, turnN_same]
 · rw [doW_def, if_neg hq] at h
   exact absurd h (by decide)
set_option maxHeartbeats 8000000 in
theorem k_ActOne : Known Tryz.prog tau 8 (S2 dWorld dAct fun w a => okB true) := by
 refine known2 hmix tau_ok (ctx_cons k_awake24 (ctx_cons k_two24 (ctx_cons k_refWorldMay (ctx_cons k_actDoL (ctx_cons k_Num (ctx_cons k_SameNode (ctx_cons k_SameWorld (ctx_cons k_SameMsgs (ctx_cons k_SameCuts ctx_nil))))))))) (fn := Tryz.f8) (by kernel_rfl) [(12, [(0, 0), (1, 1), (2, 0), (3, 6), (4, 8), (5, 0), (6, 32), (7, 0), (8, 192), (9, 256), (10, 528), (11, 1024)])] (by kernel_rfl) _ _ _ fun w a hfit => ⟨rfl,
  [(10, invN [7, 8, 35, 36, 37, 38, 39, 40, 41, 42, 43, 44, 45, 46, 47, 48, 49, 50, 51, 52, 53, 54, 55] (fun i => i ≤ w.nodes.length) (fun i => withS [(8, .int .i64 (i : Int)), (7, .int .i64 (turnN (doW w a).1.nodes w.nodes i : Int))]) (fun i => w.nodes.length - i))], ?_⟩
 clear hfit
 refine V2 ?_; constructor <;> (first | (with_reducible exact TT.i) | (intros; (repeat (apply Wk.mk; intro Kv hN hX hR)); apply Wr.mk))
 all_goals (try simp only [etaWorld, etaAct, Int.toNat_natCast] at *)
 all_goals first
  | exact absurd (show (!true) = true by with_reducible assumption) (by decide)
  | (have h := nf (show (!decide ((doW w a).2 = 0)) = true by with_reducible assumption)
     rw [do_bad (of_decide_eq_false h)]
     rfl)
  | (have h0 := of_decide_eq_true (nt (show (!decide ((doW w a).2 = 0)) = false by with_reducible assumption))
     obtain ⟨g1, g2, g3, g4, g5, g6⟩ := do_good h0
     have hl2 : w.nodes.length ≤ 8 := (nodesB_iff.1 (baseB_iff.1 (worldB_base.1 g1).1).1).2.1
     first
      | (exfalso
         have h := of_decide_eq_false (nf (show (!decide (((doW w a).1.nodes.length : Int) = (w.nodes.length : Int))) = true by with_reducible assumption))
         omega)
      | (exfalso
         have h := nf (show (!worldB (doW w a).1) = true by with_reducible assumption)
         rw [g2] at h
         exact Bool.noConfusion h)
      | (refine ⟨0, Nat.zero_le _, ?_⟩
         have e0 := turnN_zero (doW w a).1.nodes w.nodes
         refine V1 ?_; constructor <;> (first | (with_reducible exact TT.i) | (intros; (repeat (apply Wk.mk; intro Kv hN hX hR)); apply Wr.mk))
         all_goals first
          | rfl
          | (rw [e0]; rfl))
      | (with_reducible intro i hi
         have hi : i ≤ w.nodes.length := hi
         refine V2 ?_; constructor <;> (first | (with_reducible exact TT.i) | (intros; (repeat (apply Wk.mk; intro Kv hN hX hR)); apply Wr.mk))
         all_goals (try simp only [etaWorld, etaAct, etaNd, Int.toNat_natCast] at *)
         all_goals first
          | (exact Ob.mk ⟨by omega, by
              have h := of_decide_eq_true (show decide ((i : Int) < (w.nodes.length : Nat)) = true by with_reducible assumption)
              omega⟩)
          | (have h := of_decide_eq_true (show decide ((i : Int) < (w.nodes.length : Nat)) = true by with_reducible assumption)
             have tl := turnN_le (doW w a).1.nodes w.nodes i
             have ts := turnN_succ (doW w a).1.nodes w.nodes i
             refine ⟨i + 1, by omega, by omega, ?_⟩
             first
              | (have hd := of_decide_eq_false (nf (show (!decide ((doW w a).1.nodes.getD i default = w.nodes.getD i default)) = true by with_reducible assumption))
                 rw [if_neg hd] at ts
                 refine V1 ?_; constructor <;> (first | (with_reducible exact TT.i) | (intros; (repeat (apply Wk.mk; intro Kv hN hX hR)); apply Wr.mk))
                 all_goals first
                  | exact wrapI (by omega) (by omega)
                  | (rw [wrapI (by omega) (by omega), ts]
                     rfl)
                  | rfl)
              | (have hd := of_decide_eq_true (nt (show (!decide ((doW w a).1.nodes.getD i default = w.nodes.getD i default)) = false by with_reducible assumption))
                 rw [if_pos hd] at ts
                 refine V1 ?_; constructor <;> (first | (with_reducible exact TT.i) | (intros; (repeat (apply Wk.mk; intro Kv hN hX hR)); apply Wr.mk))
                 all_goals first
                  | exact wrapI (by omega) (by omega)
                  | (rw [ts]
                     rfl)
                  | rfl))
          | (have t1 := g4 i
             by_cases hk : a.kind = 4 ∨ a.kind = 5
             · obtain ⟨k1, k2⟩ := g6 hk
               have k1 := k1 i
               simp only [k1, k2] at *
               first
                | rfl
                | (simp at *; done)
                | (simp at *; omega)
             · have k1 := g5 hk
               simp only [k1] at *
               first
                | (simp at *; omega)
                | (simp at *; done))))
end Go.Proofs.YtjjpakdlkjaigaaGreat
