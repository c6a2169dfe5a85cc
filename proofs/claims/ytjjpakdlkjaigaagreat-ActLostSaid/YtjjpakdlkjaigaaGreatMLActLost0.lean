/- A part of the proof of ActLost: H24a. -/
import Derived.Test.YtjjpakdlkjaigaaGreatMB12
set_option linter.all false
set_option linter.unusedVariables false
set_option linter.unusedSimpArgs false
set_option linter.unusedSectionVars false
/- Chapter 24: a packet that is lost, one that is doubled. -/
namespace Go.Proofs.YtjjpakdlkjaigaaGreat
open Go.RowKit
set_option maxRecDepth 20000
theorem pick24 (x : Int) : ∃ p : Nat, bits .and .i64 x 65535 = (p : Int) ∧ p ≤ 65535 := ⟨(x % 65536).toNat, by rw [and65535]; omega, by omega⟩
theorem actP {w : GWorld} {k : Int} {p : Nat} (hp : p ≤ 65535) (hk : k = 1 ∨ k = 2 ∨ k = 3) : actB w ⟨k, 0, 0, (p : Int), [], 0, 0⟩ = true := by
 unfold actB
 rw [if_pos hk]
 simp only [Bool.and_eq_true, decide_eq_true_eq]
 omega
theorem tmodN (p n : Nat) : (p : Int).tmod (n : Int) = ((p % n : Nat) : Int) := by
 rw [Int.tmod_eq_emod_of_nonneg (by omega)]
 omega
theorem lost24 {w : GWorld} {p : Nat} (hw : worldB w = true) (hp : p ≤ 65535) : doW w ⟨2, 0, 0, (p : Int), [], 0, 0⟩ = (if w.packets.length = 0 then w else ⟨w.nodes, w.cuts, w.packets.take (p % w.packets.length) ++ w.packets.drop (p % w.packets.length + 1)⟩, 0) := by
 split
 · rename_i h0
   exact do2_none hw (actP hp (by simp)) rfl h0
 · rename_i h0
   exact do2_yes hw (actP hp (by simp)) rfl h0
theorem twice24 {w : GWorld} {p : Nat} (hw : worldB w = true) (hp : p ≤ 65535) : doW w ⟨3, 0, 0, (p : Int), [], 0, 0⟩ = (if w.packets.length = 0 ∨ w.packets.length = 512 then w else ⟨w.nodes, w.cuts, w.packets ++ [w.packets.getD (p % w.packets.length) default]⟩, 0) := by
 by_cases h0 : w.packets.length = 0
 · rw [if_pos (.inl h0)]
   exact do3_none hw (actP hp (by simp)) rfl h0
 · have e := do3_yes (a := ⟨3, 0, 0, (p : Int), [], 0, 0⟩) hw (actP hp (by simp)) rfl h0
   have hm := Nat.mod_lt p (show 0 < w.packets.length by omega)
   have ep : pickP w ⟨3, 0, 0, (p : Int), [], 0, 0⟩ = p % w.packets.length := rfl
   rw [ep, (send_may hw (one_pack hw hm)).1] at e
   rw [e]
   have l1 : w.packets.length ≤ 512 := (worldB_base.1 hw).2.1
   by_cases h5 : w.packets.length = 512
   · rw [if_pos (.inr h5)]
     show ((⟨w.nodes, w.cuts, w.packets ++ [_].take (512 - w.packets.length)⟩ : GWorld), (0 : Int)) = (w, 0)
     rw [h5, Nat.sub_self, List.take_zero, List.append_nil]
   · rw [if_neg (by omega)]
     show ((⟨w.nodes, w.cuts, w.packets ++ [_].take (512 - w.packets.length)⟩ : GWorld), (0 : Int)) = _
     rw [List.take_of_length_le (by simp; omega)]
theorem lost_none {w : GWorld} {p : Nat} (hw : worldB w = true) (hp : p ≤ 65535) (h0 : w.packets.length = 0) : doW w ⟨2, 0, 0, (p : Int), [], 0, 0⟩ = (w, 0) := by rw [lost24 hw hp, if_pos h0]
theorem twice_none {w : GWorld} {p : Nat} (hw : worldB w = true) (hp : p ≤ 65535) (h0 : w.packets.length = 0) : doW w ⟨3, 0, 0, (p : Int), [], 0, 0⟩ = (w, 0) := by rw [twice24 hw hp, if_pos (.inl h0)]
set_option maxHeartbeats 8000000 in
theorem k_ActLost : Known Tryz.prog tau 7 (S2 dWorld dInt fun w x => okB true) := by
 refine known2 hmix tau_ok (ctx_cons k_awake24 (ctx_cons k_refWorldMay (ctx_cons k_actDoL (ctx_cons k_Num (ctx_cons k_SameWorld (ctx_cons k_SameMsgs (ctx_cons k_SameMsg ctx_nil))))))) (fn := Tryz.f7) (by kernel_rfl) [(13, ((0, 0) :: (1, 1) :: (2, 2) :: (3, 0) :: (4, 8) :: (5, 20) :: (6, 32) :: (7, 64) :: (8, 192) :: (9, 64) :: (10, 64) :: (11, 1600) :: (12, 2368) :: (13, 64) :: (14, 8256) :: (15, 64) :: (16, 64) :: (17, 98368) :: (18, 147520) :: (19, 266304) :: (20, 524352) :: (21, 1048640) :: (22, 2621440) :: (23, 4194304) :: (24, 12582912) :: (25, 4194304) :: (26, 4194304) :: (27, 104857600) :: (28, 155189248) :: (29, 4194304) :: (30, 541065216) :: (31, 4194304) :: (32, 4194304) :: (33, 6446645248) :: (34, 8594128896) :: (35, 18257805312) :: (36, 34632368128) :: (37, 68723671040) :: (38, 137443147776) :: [])), (17, ((0, 0) :: (1, 1) :: (2, 2) :: (3, 0) :: (4, 8) :: (5, 20) :: (6, 32) :: (7, 64) :: (8, 192) :: (9, 64) :: (10, 832) :: (11, 64) :: (12, 2112) :: (13, 5184) :: (14, 8256) :: (15, 24576) :: (16, 32768) :: (17, 98304) :: (18, 32768) :: (19, 425984) :: (20, 557056) :: (21, 32768) :: (22, 2129920) :: (23, 32768) :: (24, 32768) :: (25, 25198592) :: (26, 37781504) :: (27, 67141632) :: (28, 135299072) :: (29, 268468224) :: (30, 1073741823) :: []))] (by kernel_rfl) _ _ _ fun w x hfit => ⟨rfl, [], ?_⟩
 clear hfit
 obtain ⟨p, hp, hp2⟩ := pick24 x
 (repeat' (first | ((with_reducible refine BdI ?_); (first | ((with_reducible refine SqI ?_ (fun Kv hN hX hR => ?_)); (next => exact rfl)) | ((with_reducible refine JnI ?_ ?_); (next => exact rfl)) | (conv => whnf))) | (with_reducible first | refine BdS (fun Kv hN hX hR => ?_) | refine Stop.mk ?_ | refine Join.mk ⟨fun Kv hN hX hR => ?_, ?_⟩ | apply DrawJ.join | exact SubJ.self _) | ((with_reducible refine SubJ.of ?_); (repeat' (first | with_reducible rfl | ((conv => whnf) <;> (first | with_reducible exact True.intro | with_reducible refine And.intro ?_ ?_ | with_reducible rfl | ((conv => rhs; whnf) <;> with_reducible rfl))))); done) | (with_reducible first | refine FlS (fun Kf hF => ?_) | refine FlN ?_ | refine NdS (fun Kg hG => ?_) | (refine hF _ _ ?_; clear hF; clear Kf) | (refine hG _ _ _ _ ?_; clear hG; clear Kg)) | ((with_reducible refine SqI ?_ (fun Kv hN hX hR => ?_)); (next => exact rfl)) | ((with_reducible refine JnI ?_ ?_); (next => exact rfl)) | ((with_reducible first | refine hN _ ?_ | refine hX _ _ ?_ | refine hR _ ?_); (try (clear hG; clear Kg)); clear hN hX hR; clear Kv) | ((conv => whnf); first | (with_reducible first | rfl | exact True.intro | intro _ | refine And.intro ?_ ?_) | ((with_reducible first | refine hN _ ?_ | refine hX _ _ ?_ | refine hR _ ?_); (try (clear hG; clear Kg)); clear hN hX hR; clear Kv) | (with_reducible first | refine BdS (fun Kv hN hX hR => ?_) | refine Stop.mk ?_ | refine Join.mk ⟨fun Kv hN hX hR => ?_, ?_⟩ | apply DrawJ.join | exact SubJ.self _) | ((with_reducible refine SubJ.of ?_); (repeat' (first | with_reducible rfl | ((conv => whnf) <;> (first | with_reducible exact True.intro | with_reducible refine And.intro ?_ ?_ | with_reducible rfl | ((conv => rhs; whnf) <;> with_reducible rfl))))); done) | (with_reducible first | refine FlS (fun Kf hF => ?_) | refine FlN ?_ | refine NdS (fun Kg hG => ?_) | (refine hF _ _ ?_; clear hF; clear Kf) | (refine hG _ _ _ _ ?_; clear hG; clear Kg))))); all_goals (conv => whnf); all_goals (repeat ((try (clear hG; clear Kg)); clear hN hX hR; clear Kv))
 all_goals (try simp only [hp, etaWorld, etaAct, tmodN] at *)
 all_goals first
  | exact absurd (show (!true) = true by with_reducible assumption) (by decide)
  | rfl
  | (have hw : worldB w = true := nt aQ
     have l1 : w.packets.length ≤ 512 := (worldB_base.1 hw).2.1
     by_cases h0 : w.packets.length = 0
     · simp only [lost_none hw hp2 h0, twice_none hw hp2 h0] at *
       first
        | exact absurd (show (!decide True) = true by with_reducible assumption) (by decide)
        | (exfalso
           have h := of_decide_eq_false (show decide ((w.packets.length : Int) = 0) = false by with_reducible assumption)
           omega)
        | (exfalso
           rename_i h
           simp at h
           done)
        | (simp; done)
     · have hm := Nat.mod_lt p (show 0 < w.packets.length by omega)
       have w1 : IntKind.i64.wrap ((w.packets.length : Int) - 1) = ((w.packets.length - 1 : Nat) : Int) := by rw [wrapI (by omega) (by omega)]; omega
       have w2 : IntKind.i64.wrap ((w.packets.length : Int) + 1) = ((w.packets.length + 1 : Nat) : Int) := by rw [wrapI (by omega) (by omega)]; omega
       have w3 : IntKind.i64.wrap (((p % w.packets.length : Nat) : Int) + 1) = ((p % w.packets.length + 1 : Nat) : Int) := by rw [wrapI (by omega) (by omega)]; omega
       have g1 : (w.packets.take (p % w.packets.length) ++ w.packets.drop (p % w.packets.length + 1)).length = w.packets.length - 1 := by rw [List.length_append, List.length_take, List.length_drop]; omega
       have g2 : (w.packets.take (p % w.packets.length) ++ w.packets.drop (p % w.packets.length + 1)).take (p % w.packets.length) = w.packets.take (p % w.packets.length) := List.take_left' (by rw [List.length_take]; omega)
       have g3 : (w.packets.take (p % w.packets.length) ++ w.packets.drop (p % w.packets.length + 1)).drop (p % w.packets.length) = w.packets.drop (p % w.packets.length + 1) := List.drop_left' (by rw [List.length_take]; omega)
       have g7 : (w.packets.take (p % w.packets.length) ++ w.packets.drop (p % w.packets.length + 1)).take (w.packets.length - 1) = w.packets.take (p % w.packets.length) ++ w.packets.drop (p % w.packets.length + 1) := List.take_of_length_le (by rw [g1]; exact Nat.le_refl _)
       have a1 : doW w ⟨2, 0, 0, (p : Int), [], 0, 0⟩ = (⟨w.nodes, w.cuts, w.packets.take (p % w.packets.length) ++ w.packets.drop (p % w.packets.length + 1)⟩, 0) := by rw [lost24 hw hp2, if_neg h0]
       by_cases h5 : w.packets.length = 512
       · have a2 : doW w ⟨3, 0, 0, (p : Int), [], 0, 0⟩ = (w, 0) := by rw [twice24 hw hp2, if_pos (.inr h5)]
         simp only [a1, a2] at *
         first
          | exact absurd (show (!decide True) = true by with_reducible assumption) (by decide)
          | (exfalso
             have h := of_decide_eq_true (show decide ((w.packets.length : Int) = 0) = true by with_reducible assumption)
             omega)
          | (refine Ob.mk ?_; omega)
          | (refine Ob.mk ⟨?_, ?_, ?_⟩ <;> omega)
          | (exfalso
             rename_i h
             simp only [Int.toNat_zero, Int.toNat_natCast, List.drop_zero, List.take_length, w1, w2, w3, g1, g2, g3, g7] at h
             simp at h
             done)
          | (exfalso
             have h := of_decide_eq_false (show decide ((w.packets.length : Int) = 512) = false by with_reducible assumption)
             omega)
          | (simp; done)
       · have a2 : doW w ⟨3, 0, 0, (p : Int), [], 0, 0⟩ = (⟨w.nodes, w.cuts, w.packets ++ [w.packets.getD (p % w.packets.length) default]⟩, 0) := by rw [twice24 hw hp2, if_neg (by omega)]
         have g4 : (w.packets ++ [w.packets.getD (p % w.packets.length) default]).length = w.packets.length + 1 := by simp
         have g5 : (w.packets ++ [w.packets.getD (p % w.packets.length) default]).getD w.packets.length default = w.packets.getD (p % w.packets.length) default := by simp [List.getD_eq_getElem?_getD]
         have g6 : (w.packets ++ [w.packets.getD (p % w.packets.length) default]).take w.packets.length = w.packets := List.take_left' rfl
         simp only [a1, a2] at *
         first
          | exact absurd (show (!decide True) = true by with_reducible assumption) (by decide)
          | (exfalso
             have h := of_decide_eq_true (show decide ((w.packets.length : Int) = 0) = true by with_reducible assumption)
             omega)
          | (exfalso
             have h := of_decide_eq_true (show decide ((w.packets.length : Int) = 512) = true by with_reducible assumption)
             omega)
          | (refine Ob.mk ?_; omega)
          | (refine Ob.mk ⟨?_, ?_⟩ <;> omega)
          | (refine Ob.mk ⟨?_, ?_, ?_⟩ <;> omega)
          | (exfalso
             rename_i h
             simp only [Int.toNat_zero, Int.toNat_natCast, List.drop_zero, List.take_length, w1, w2, w3, g1, g2, g3, g4, g5, g6, g7, etaMsg] at h
             simp at h
             done)
          | (simp only [Int.toNat_zero, Int.toNat_natCast, List.drop_zero, List.take_length, w1, w2, w3, g1, g2, g3, g4, g5, g6, g7, etaMsg]
             simp
             done))
end Go.Proofs.YtjjpakdlkjaigaaGreat
